/- Two lists of rows apart, and plain laws for the elimination. A region that draws its order, whose operations are quiet but for the last, a call whose result nobody reads. The program's isHermite. Copies of lists of rows (both), and the tests of the rows (the program's). The program's subtract: a multiple of one row is taken from another in place. The reference's l27Less, l27Floor, l27Lead. Small functions of the Hermite form: pivots, quotients, a row taken from another. Lists of rows: a row taken out of the list, a row put at its end. Lists of rows whose headers are told by name: rows changed in place, taken out, put in. Plain: the Hermite form of accepted rows; membership and index. Plain: the Hermite form: the phases, the rows' shape, what lies in the lattice. Plain: the column's rounds of the reference and of the program leave the same; how great the other columns' numbers grow. Plain: the row steps of the Hermite form; that they end, and that no number grows too great meanwhile. -/
import Derived.Test.YtjmjhhdjlompfaaNum
import Derived.Test.YtjmjhhdjlompfaaBase
import Derived.Test.YtjmjhhdjlompfaaOwnF
import Derived.BigQuiet
import Derived.Test.YtjmjhhdjlompfaaQuiC
import Derived.Test.YtjmjhhdjlompfaaCpy
import Derived.Deep.RegionHeld3
namespace Go.Proofs.Ytjmjhhdjlompfaa
set_option maxRecDepth 20000
set_option linter.unusedVariables false
set_option linter.unusedSimpArgs false
open Go.RowKit

def cl (r : List Int) (c : Nat) : Int := r.getD c 0
def rw_ (rows : List (List Int)) (i : Nat) : List Int := rows.getD i []
def wS (a q b : Int) : Int := wrap64 (a - wrap64 (q * b))
def subR (r : List Int) (q : Int) (b : List Int) : List Int := (List.range r.length).map fun i => wS (cl r i) q (cl b i)
def quoW (a b : Int) : Int := wrap64 (Int.tdiv a b)
theorem subR_len (r : List Int) (q : Int) (b : List Int) : (subR r q b).length = r.length := by simp [subR]
theorem subR_cl (r : List Int) (q : Int) (b : List Int) (i : Nat) (h : i < r.length) : cl (subR r q b) i = wS (cl r i) q (cl b i) := by
  unfold subR cl
  rw [List.getD_eq_getElem?_getD, List.getElem?_map, List.getElem?_range h]
  rfl
/-- The row whose number in column c is least, but not 0; -1 if there is none. -/
def pickS (rows : List (List Int)) (c : Nat) (m : Int) (i : Nat) : Int :=
  if cl (rw_ rows i) c ≠ 0 ∧ (m < 0 ∨ abs64 (cl (rw_ rows i) c) < abs64 (cl (rw_ rows m.toNat) c)) then (i : Int) else m
def pickF (rows : List (List Int)) (c k : Nat) : Int := (List.range k).foldl (pickS rows c) (-1)
theorem pickF_succ (rows : List (List Int)) (c k : Nat) : pickF rows c (k + 1) = pickS rows c (pickF rows c k) k := by
  unfold pickF
  rw [List.range_succ, List.foldl_append]
  rfl
theorem pickF_range (rows : List (List Int)) (c k : Nat) : pickF rows c k = -1 ∨ (0 ≤ pickF rows c k ∧ pickF rows c k < k) := by
  induction k with
  | zero => exact .inl rfl
  | succ k ih =>
    rw [pickF_succ]
    unfold pickS
    split
    · exact .inr (by omega)
    · omega
/-- What becomes of row i where row j is taken from the others. -/
def newR (rows : List (List Int)) (c j i : Nat) : List Int := subR (rw_ rows i) (quoW (cl (rw_ rows i) c) (cl (rw_ rows j) c)) (rw_ rows j)
def hitR (rows : List (List Int)) (c j i : Nat) : Bool := decide (i ≠ j) && decide (cl (rw_ rows i) c ≠ 0)
def rndS (c j : Nat) (rows : List (List Int)) (i : Nat) : List (List Int) := if hitR rows c j i = true then rows.set i (newR rows c j i) else rows
def rndF (rows : List (List Int)) (c j k : Nat) : List (List Int) := (List.range k).foldl (rndS c j) rows
theorem rndF_succ (rows : List (List Int)) (c j k : Nat) : rndF rows c j (k + 1) = rndS c j (rndF rows c j k) k := by
  unfold rndF
  rw [List.range_succ, List.foldl_append]
  rfl
theorem rw_set (rows : List (List Int)) (i j : Nat) (r : List Int) (h : i < rows.length) : rw_ (rows.set i r) j = if j = i then r else rw_ rows j := by
  unfold rw_
  rw [List.getD_eq_getElem?_getD, List.getElem?_set]
  by_cases e : i = j
  · subst e; simp [h]
  · rw [if_neg e, if_neg (fun h => e h.symm), List.getD_eq_getElem?_getD]
theorem rndF_get (rows : List (List Int)) (c j : Nat) : ∀ k, k ≤ rows.length → (rndF rows c j k).length = rows.length ∧ ∀ i, rw_ (rndF rows c j k) i = if i < k ∧ hitR rows c j i = true then newR rows c j i else rw_ rows i := by
  intro k
  induction k with
  | zero => intro _; exact ⟨rfl, fun i => by rw [if_neg (by omega)]; rfl⟩
  | succ k ih =>
    intro hk
    obtain ⟨h1, h2⟩ := ih (by omega)
    rw [rndF_succ]
    have hj : rw_ (rndF rows c j k) j = rw_ rows j := by rw [h2, if_neg (fun h => by simp [hitR] at h)]
    have hk' : rw_ (rndF rows c j k) k = rw_ rows k := by rw [h2, if_neg (by omega)]
    have hh : hitR (rndF rows c j k) c j k = hitR rows c j k := by unfold hitR; rw [hk']
    have hn : newR (rndF rows c j k) c j k = newR rows c j k := by unfold newR; rw [hk', hj]
    unfold rndS
    rw [hh, hn]
    split
    · rename_i hb
      refine ⟨by rw [List.length_set, h1], fun i => ?_⟩
      rw [rw_set _ _ _ _ (by omega), h2]
      by_cases e : i = k
      · subst e; rw [if_pos rfl, if_pos ⟨by omega, hb⟩]
      · rw [if_neg e]
        by_cases h : i < k ∧ hitR rows c j i = true
        · rw [if_pos h, if_pos ⟨by omega, h.2⟩]
        · rw [if_neg h, if_neg (fun h' => h ⟨by omega, h'.2⟩)]
    · rename_i hb
      refine ⟨h1, fun i => ?_⟩
      rw [h2]
      by_cases h : i < k ∧ hitR rows c j i = true
      · rw [if_pos h, if_pos ⟨by omega, h.2⟩]
      · rw [if_neg h, if_neg (fun h' => ?_)]
        by_cases e : i = k
        · subst e; exact hb h'.2
        · exact h ⟨by omega, h'.2⟩
/-- Whether a number other than 0 is left in a row that was changed (the program's question), and whether a row was changed (the reference's). -/
def moreF (rows : List (List Int)) (c j k : Nat) : Bool := (List.range k).any fun i => hitR rows c j i && decide (cl (newR rows c j i) c ≠ 0)
def chgF (rows : List (List Int)) (c j k : Nat) : Bool := (List.range k).any (hitR rows c j)
theorem moreF_succ (rows : List (List Int)) (c j k : Nat) : moreF rows c j (k + 1) = (moreF rows c j k || (hitR rows c j k && decide (cl (newR rows c j k) c ≠ 0))) := by
  unfold moreF
  rw [List.range_succ, List.any_append]
  simp
theorem chgF_succ (rows : List (List Int)) (c j k : Nat) : chgF rows c j (k + 1) = (chgF rows c j k || hitR rows c j k) := by
  unfold chgF
  rw [List.range_succ, List.any_append]
  simp
/-- A whole round. -/
def rnd (rows : List (List Int)) (c j : Nat) : List (List Int) := rndF rows c j rows.length
theorem rnd_len (rows : List (List Int)) (c j : Nat) : (rnd rows c j).length = rows.length := (rndF_get rows c j _ (Nat.le_refl _)).1
theorem hit_lt {rows : List (List Int)} {c j i : Nat} (h : hitR rows c j i = true) : i < rows.length := by
  rcases Nat.lt_or_ge i rows.length with h1 | h1
  · exact h1
  · have : rw_ rows i = [] := by unfold rw_; rw [List.getD_eq_getElem?_getD, List.getElem?_eq_none h1]; rfl
    simp [hitR, this, cl] at h
theorem rnd_get (rows : List (List Int)) (c j i : Nat) : rw_ (rnd rows c j) i = if hitR rows c j i = true then newR rows c j i else rw_ rows i := by
  unfold rnd
  rw [(rndF_get rows c j _ (Nat.le_refl _)).2]
  by_cases h : hitR rows c j i = true
  · rw [if_pos h, if_pos ⟨hit_lt h, h⟩]
  · rw [if_neg h, if_neg (fun h' => h h'.2)]
/-- A column's rounds, as the program turns them. -/
def colI (c : Nat) : Nat → List (List Int) → Int × List (List Int)
  | 0, rows => (-1, rows)
  | f + 1, rows =>
    if pickF rows c rows.length < 0 then (-1, rows)
    else if moreF rows c (pickF rows c rows.length).toNat rows.length = true then colI c f (rnd rows c (pickF rows c rows.length).toNat)
    else (pickF rows c rows.length, rnd rows c (pickF rows c rows.length).toNat)
/-- As the reference turns them. -/
def colS (c : Nat) : Nat → Int → List (List Int) → Int × List (List Int)
  | 0, b, rows => (b, rows)
  | f + 1, _, rows =>
    if pickF rows c rows.length < 0 then (-1, rows)
    else if chgF rows c (pickF rows c rows.length).toNat rows.length = true then colS c f (pickF rows c rows.length) (rnd rows c (pickF rows c rows.length).toNat)
    else (pickF rows c rows.length, rnd rows c (pickF rows c rows.length).toNat)
/-- The program's rounds end within so many. -/
def endI (c : Nat) : Nat → List (List Int) → Bool
  | 0, _ => false
  | f + 1, rows =>
    if pickF rows c rows.length < 0 then true
    else if moreF rows c (pickF rows c rows.length).toNat rows.length = true then endI c f (rnd rows c (pickF rows c rows.length).toNat)
    else true
theorem colI_succ (c f : Nat) (rows : List (List Int)) : colI c (f + 1) rows = if pickF rows c rows.length < 0 then (-1, rows)
    else if moreF rows c (pickF rows c rows.length).toNat rows.length = true then colI c f (rnd rows c (pickF rows c rows.length).toNat)
    else (pickF rows c rows.length, rnd rows c (pickF rows c rows.length).toNat) := rfl
theorem colS_succ (c f : Nat) (b : Int) (rows : List (List Int)) : colS c (f + 1) b rows = if pickF rows c rows.length < 0 then (-1, rows)
    else if chgF rows c (pickF rows c rows.length).toNat rows.length = true then colS c f (pickF rows c rows.length) (rnd rows c (pickF rows c rows.length).toNat)
    else (pickF rows c rows.length, rnd rows c (pickF rows c rows.length).toNat) := rfl
theorem endI_succ (c f : Nat) (rows : List (List Int)) : endI c (f + 1) rows = if pickF rows c rows.length < 0 then true
    else if moreF rows c (pickF rows c rows.length).toNat rows.length = true then endI c f (rnd rows c (pickF rows c rows.length).toNat)
    else true := rfl
theorem endI_mono (c : Nat) : ∀ f rows, endI c f rows = true → endI c (f + 1) rows = true ∧ colI c (f + 1) rows = colI c f rows := by
  intro f
  induction f with
  | zero => intro rows h; cases h
  | succ f ih =>
    intro rows h
    rw [endI_succ] at h
    rw [endI_succ, colI_succ c (f + 1) rows, colI_succ c f rows]
    by_cases h0 : pickF rows c rows.length < 0
    · rw [if_pos h0, if_pos h0, if_pos h0]; exact ⟨rfl, rfl⟩
    · rw [if_neg h0] at h
      rw [if_neg h0, if_neg h0, if_neg h0]
      split at h
      · rename_i hm
        rw [if_pos hm, if_pos hm, if_pos hm]
        exact ih _ h
      · rename_i hm
        rw [if_neg hm, if_neg hm, if_neg hm]
        exact ⟨rfl, rfl⟩
/-! Numbers. -/
def mg (rows : List (List Int)) (c i : Nat) : Nat := (cl (rw_ rows i) c).natAbs
theorem mg_zero {rows : List (List Int)} {c i : Nat} : mg rows c i = 0 ↔ cl (rw_ rows i) c = 0 := Int.natAbs_eq_zero
theorem mg_out {rows : List (List Int)} {c i : Nat} (h : rows.length ≤ i) : mg rows c i = 0 := by
  have : rw_ rows i = [] := by unfold rw_; rw [List.getD_eq_getElem?_getD, List.getElem?_eq_none h]; rfl
  unfold mg
  rw [this]; rfl
theorem abs_mg {x : Int} (h : x.natAbs ≤ 4000000000000000000) : abs64 x = (x.natAbs : Int) := by
  unfold abs64
  split
  · rw [IntWalk.wrap64_in _ ⟨by omega, by omega⟩]; omega
  · omega
theorem pick_spec {rows : List (List Int)} {c : Nat} (hb : ∀ i, mg rows c i ≤ 4000000000000000000) : ∀ k, (pickF rows c k = -1 ∧ ∀ i, i < k → mg rows c i = 0) ∨
    (0 ≤ pickF rows c k ∧ (pickF rows c k).toNat < k ∧ mg rows c (pickF rows c k).toNat ≠ 0 ∧ ∀ i, i < k → mg rows c i ≠ 0 → mg rows c (pickF rows c k).toNat ≤ mg rows c i) := by
  intro k
  induction k with
  | zero => exact .inl ⟨rfl, fun i hi => by cases hi⟩
  | succ k ih =>
    rw [pickF_succ]
    unfold pickS
    have hk : abs64 (cl (rw_ rows k) c) = (mg rows c k : Int) := abs_mg (hb k)
    rcases ih with ⟨h1, h2⟩ | ⟨h1, h2, h3, h4⟩
    · rw [h1]
      by_cases h0 : cl (rw_ rows k) c = 0
      · rw [if_neg (fun h => h.1 h0)]
        exact .inl ⟨rfl, fun i hi => by
          by_cases e : i = k
          · rw [e]; exact mg_zero.2 h0
          · exact h2 i (by omega)⟩
      · rw [if_pos ⟨h0, .inl (by decide)⟩]
        refine .inr ⟨by omega, by omega, by rw [Int.toNat_natCast]; exact fun h => h0 (mg_zero.1 h), fun i hi hne => ?_⟩
        by_cases e : i = k
        · rw [e, Int.toNat_natCast]; exact Nat.le_refl _
        · exact absurd (h2 i (by omega)) hne
    · have hj : abs64 (cl (rw_ rows (pickF rows c k).toNat) c) = (mg rows c (pickF rows c k).toNat : Int) := abs_mg (hb _)
      rw [hk, hj]
      split
      · rename_i hc
        have hlt : mg rows c k < mg rows c (pickF rows c k).toNat := by omega
        refine .inr ⟨by omega, by omega, by rw [Int.toNat_natCast]; exact fun h => hc.1 (mg_zero.1 h), fun i hi hne => ?_⟩
        rw [Int.toNat_natCast]
        by_cases e : i = k
        · rw [e]; exact Nat.le_refl _
        · have := h4 i (by omega) hne; omega
      · rename_i hc
        refine .inr ⟨h1, by omega, h3, fun i hi hne => ?_⟩
        by_cases e : i = k
        · subst e
          have : ¬ cl (rw_ rows i) c = 0 := fun h => hne (mg_zero.2 h)
          by_cases h5 : mg rows c i < mg rows c (pickF rows c i).toNat
          · exact absurd ⟨this, .inr (by omega)⟩ hc
          · omega
        · exact h4 i (by omega) hne
theorem quoW_abs {x p : Int} (hx : x.natAbs ≤ 4000000000000000000) : quoW x p = Int.tdiv x p := by
  unfold quoW
  have h : (Int.tdiv x p).natAbs ≤ x.natAbs := by rw [Int.natAbs_tdiv]; exact Nat.div_le_self _ _
  exact IntWalk.wrap64_in _ ⟨by omega, by omega⟩
theorem wS_rem {x p : Int} (hx : x.natAbs ≤ 4000000000000000000) (hp : p ≠ 0) : wS x (quoW x p) p = Int.tmod x p := by
  rw [quoW_abs hx]
  unfold wS
  have h1 := Int.natAbs_tmod x p
  have h2 : x.natAbs % p.natAbs ≤ x.natAbs := Nat.mod_le _ _
  have h3 : Int.tdiv x p * p = x - Int.tmod x p := by rw [Int.tmod_def, Int.mul_comm]; omega
  have h4 : (Int.tdiv x p * p).natAbs ≤ x.natAbs := by
    rw [Int.natAbs_mul, Int.natAbs_tdiv]
    exact Nat.div_mul_le_self _ _
  rw [IntWalk.wrap64_in (Int.tdiv x p * p) ⟨by omega, by omega⟩, h3]
  have e : x - (x - Int.tmod x p) = Int.tmod x p := by omega
  rw [e]
  exact IntWalk.wrap64_in _ ⟨by omega, by omega⟩
/-- Rows all of one length. -/
def Rect (n : Nat) (rows : List (List Int)) : Prop := ∀ i, i < rows.length → (rw_ rows i).length = n
theorem rnd_rect {n : Nat} {rows : List (List Int)} (h : Rect n rows) (c j : Nat) : Rect n (rnd rows c j) := by
  intro i hi
  rw [rnd_len] at hi
  rw [rnd_get]
  split
  · unfold newR; rw [subR_len]; exact h i hi
  · exact h i hi
theorem new_cl {n : Nat} {rows : List (List Int)} (h : Rect n rows) {c j i t : Nat} (ht : t < n) (hi : i < rows.length) : cl (newR rows c j i) t = wS (cl (rw_ rows i) t) (quoW (cl (rw_ rows i) c) (cl (rw_ rows j) c)) (cl (rw_ rows j) t) := by
  unfold newR
  exact subR_cl _ _ _ _ (by rw [h i hi]; exact ht)
theorem rnd_mg {n : Nat} {rows : List (List Int)} (h : Rect n rows) {c j : Nat} (hc : c < n) (hb : ∀ i, mg rows c i ≤ 4000000000000000000) (hj : mg rows c j ≠ 0) (i : Nat) : mg (rnd rows c j) c i = if i = j then mg rows c j else mg rows c i % mg rows c j := by
  unfold mg at *
  rw [rnd_get]
  have hj0 : cl (rw_ rows j) c ≠ 0 := fun h => hj (by rw [h]; rfl)
  by_cases hh : hitR rows c j i = true
  · rw [if_pos hh, new_cl h hc (hit_lt hh), wS_rem (hb i) hj0, Int.natAbs_tmod]
    simp only [hitR, Bool.and_eq_true, decide_eq_true_eq] at hh
    rw [if_neg hh.1]
  · rw [if_neg hh]
    by_cases e : i = j
    · rw [if_pos e, e]
    · rw [if_neg e]
      have : cl (rw_ rows i) c = 0 := by
        simp only [hitR, Bool.and_eq_true, decide_eq_true_eq, not_and] at hh
        exact Decidable.byContradiction (hh e)
      rw [this]
      simp
theorem more_spec {n : Nat} {rows : List (List Int)} (h : Rect n rows) {c j : Nat} (hc : c < n) : moreF rows c j rows.length = true ↔ ∃ i, i ≠ j ∧ mg (rnd rows c j) c i ≠ 0 := by
  unfold moreF
  rw [List.any_eq_true]
  constructor
  · rintro ⟨i, hi, hh⟩
    simp only [Bool.and_eq_true, decide_eq_true_eq] at hh
    refine ⟨i, ?_, ?_⟩
    · have := hh.1; simp only [hitR, Bool.and_eq_true, decide_eq_true_eq] at this; exact this.1
    · unfold mg
      rw [rnd_get, if_pos hh.1]
      exact fun e => hh.2 (Int.natAbs_eq_zero.1 e)
  · rintro ⟨i, hne, hm⟩
    unfold mg at hm
    rw [rnd_get] at hm
    by_cases hh : hitR rows c j i = true
    · rw [if_pos hh] at hm
      exact ⟨i, List.mem_range.2 (hit_lt hh), by rw [hh]; simpa using fun e => hm (by rw [e]; rfl)⟩
    · rw [if_neg hh] at hm
      refine absurd ?_ hh
      unfold hitR
      simp only [Bool.and_eq_true, decide_eq_true_eq]
      exact ⟨hne, fun e => hm (by rw [e]; rfl)⟩
theorem mod_half {m p : Nat} (h : p ≤ m) (hp : p ≠ 0) : 2 * (m % p) ≤ m := by
  have h1 := Nat.mod_lt m (Nat.pos_of_ne_zero hp)
  have h2 := Nat.div_add_mod m p
  have h3 : 1 ≤ m / p := (Nat.one_le_div_iff (Nat.pos_of_ne_zero hp)).2 h
  have h4 : p * 1 ≤ p * (m / p) := Nat.mul_le_mul_left p h3
  omega
/-- The rounds of a column end: the numbers halve in two rounds. -/
theorem endI_pow {n c : Nat} (hc : c < n) : ∀ k, k ≤ 61 → ∀ rows, Rect n rows → (∀ i, mg rows c i < 2 ^ k) → endI c (2 * k + 1) rows = true := by
  intro k
  induction k with
  | zero =>
    intro _ rows hr hb
    have hb' : ∀ i, mg rows c i ≤ 4000000000000000000 := fun i => by have := hb i; omega
    rw [endI_succ]
    rcases pick_spec hb' rows.length with ⟨h1, _⟩ | ⟨_, _, h3, _⟩
    · rw [if_pos (by omega)]
    · exact absurd (hb (pickF rows c rows.length).toNat) (by omega)
  | succ k ih =>
    intro hk rows hr hb
    have h2k : 2 ^ (k + 1) ≤ 2 ^ 61 := Nat.pow_le_pow_right (by decide) hk
    have e2k : 2 ^ (k + 1) = 2 * 2 ^ k := by rw [Nat.pow_succ, Nat.mul_comm]
    have hb' : ∀ i, mg rows c i ≤ 4000000000000000000 := fun i => by have := hb i; omega
    rw [show 2 * (k + 1) + 1 = (2 * k + 1 + 1) + 1 by omega, endI_succ]
    rcases pick_spec hb' rows.length with ⟨h1, _⟩ | ⟨h1, h2, h3, h4⟩
    · rw [if_pos (by omega)]
    rw [if_neg (by omega)]
    split
    · rename_i hm
      obtain ⟨i1, hi1, hm1⟩ := (more_spec hr hc).1 hm
      generalize (pickF rows c rows.length).toNat = j at *
      have hg := rnd_mg hr hc hb' h3
      have hr1 := rnd_rect hr c j
      have hsm : ∀ i, i ≠ j → mg (rnd rows c j) c i < 2 ^ k := fun i hi => by
        rw [hg i, if_neg hi]
        by_cases h0 : mg rows c i = 0
        · rw [h0, Nat.zero_mod]; exact Nat.two_pow_pos k
        · have hil : i < rows.length := Nat.lt_of_not_le fun h => h0 (mg_out h)
          have := mod_half (h4 i hil h0) h3
          have := hb i
          omega
      have hb1 : ∀ i, mg (rnd rows c j) c i ≤ 4000000000000000000 := fun i => by
        rw [hg i]
        split
        · exact hb' j
        · exact Nat.le_trans (Nat.mod_le _ _) (hb' i)
      rw [endI_succ]
      rcases pick_spec hb1 (rnd rows c j).length with ⟨g1, _⟩ | ⟨g1, g2, g3, g4⟩
      · rw [if_pos (by omega)]
      rw [if_neg (by omega)]
      split
      · have hi1l : i1 < (rnd rows c j).length := Nat.lt_of_not_le fun h => hm1 (mg_out h)
        have hp1 := g4 i1 hi1l hm1
        have hp2 := hsm i1 hi1
        generalize (pickF (rnd rows c j) c (rnd rows c j).length).toNat = j1 at *
        refine ih (by omega) _ (rnd_rect hr1 c j1) fun i => ?_
        rw [rnd_mg hr1 hc hb1 g3 i]
        split
        · omega
        · have := Nat.mod_lt (mg (rnd rows c j) c i) (Nat.pos_of_ne_zero g3)
          omega
      · rfl
    · rfl
theorem rnd_bd {n : Nat} {rows : List (List Int)} (h : Rect n rows) {c j : Nat} (hc : c < n) (hb : ∀ i, mg rows c i ≤ 4000000000000000000) (hj : mg rows c j ≠ 0) (i : Nat) : mg (rnd rows c j) c i ≤ 4000000000000000000 := by
  rw [rnd_mg h hc hb hj i]
  split
  · exact hb j
  · exact Nat.le_trans (Nat.mod_le _ _) (hb i)
theorem rw_ext {a b : List (List Int)} (hl : a.length = b.length) (h : ∀ i, rw_ a i = rw_ b i) : a = b := by
  refine List.ext_getElem hl fun i h1 h2 => ?_
  have := h i
  unfold rw_ at this
  rw [List.getD_eq_getElem?_getD, List.getD_eq_getElem?_getD, List.getElem?_eq_getElem h1, List.getElem?_eq_getElem h2] at this
  exact this
theorem rnd_none {rows : List (List Int)} {c j : Nat} (h : ∀ i, i ≠ j → mg rows c i = 0) : rnd rows c j = rows ∧ chgF rows c j rows.length = false := by
  have hh : ∀ i, hitR rows c j i = false := fun i => by
    unfold hitR
    by_cases e : i = j
    · simp [e]
    · have := mg_zero.1 (h i e)
      simp [this]
  refine ⟨rw_ext (rnd_len rows c j) fun i => by rw [rnd_get, hh i, if_neg (by decide)], ?_⟩
  unfold chgF
  rw [List.any_eq_false]
  intro i _
  rw [hh i]; decide
theorem pick_only {rows : List (List Int)} {c j : Nat} (hb : ∀ i, mg rows c i ≤ 4000000000000000000) (hj : mg rows c j ≠ 0) (h : ∀ i, i ≠ j → mg rows c i = 0) : pickF rows c rows.length = (j : Int) := by
  rcases pick_spec hb rows.length with ⟨h1, h2⟩ | ⟨h1, h2, h3, h4⟩
  · exact absurd (h2 j (Nat.lt_of_not_le fun hl => hj (mg_out hl))) hj
  · have : (pickF rows c rows.length).toNat = j := Decidable.byContradiction fun e => h3 (h _ e)
    omega
theorem colS_eq {n c : Nat} (hc : c < n) : ∀ f rows, Rect n rows → (∀ i, mg rows c i ≤ 4000000000000000000) → endI c f rows = true → ∀ e b, colS c (f + 1 + e) b rows = colI c f rows := by
  intro f
  induction f with
  | zero => intro rows _ _ h; cases h
  | succ f ih =>
    intro rows hr hb h e b
    rw [show f + 1 + 1 + e = (f + 1 + e) + 1 by omega, colS_succ, colI_succ]
    rw [endI_succ] at h
    rcases pick_spec hb rows.length with ⟨h1, _⟩ | ⟨h1, h2, h3, h4⟩
    · rw [if_pos (by omega), if_pos (by omega)]
    have hneg : ¬ pickF rows c rows.length < 0 := by omega
    simp only [if_neg hneg] at h ⊢
    have hjp : (pickF rows c rows.length) = (((pickF rows c rows.length).toNat : Nat) : Int) := by omega
    generalize pickF rows c rows.length = P at *
    generalize hP : P.toNat = j at *
    by_cases hm : moreF rows c j rows.length = true
    · rw [if_pos hm] at h ⊢
      have hch : chgF rows c j rows.length = true := by
        unfold moreF at hm
        unfold chgF
        rw [List.any_eq_true] at hm ⊢
        obtain ⟨i, hi, hh⟩ := hm
        simp only [Bool.and_eq_true] at hh
        exact ⟨i, hi, hh.1⟩
      rw [if_pos hch]
      exact ih _ (rnd_rect hr c j) (rnd_bd hr hc hb h3) h e P
    · rw [if_neg hm]
      have hz : ∀ i, i ≠ j → mg (rnd rows c j) c i = 0 := fun i hi => Decidable.byContradiction fun hne => hm ((more_spec hr hc).2 ⟨i, hi, hne⟩)
      split
      · rw [show f + 1 + e = (f + e) + 1 by omega, colS_succ]
        have hj1 : mg (rnd rows c j) c j ≠ 0 := by rw [rnd_mg hr hc hb h3, if_pos rfl]; exact h3
        have hp1 := pick_only (rnd_bd hr hc hb h3) hj1 hz
        obtain ⟨q1, q2⟩ := rnd_none hz
        rw [hp1, if_neg (by omega), Int.toNat_natCast, q1, q2, if_neg (by decide), hjp]
      · rfl
/-- What is left of a column. -/
theorem colI_spec {n c : Nat} (hc : c < n) : ∀ f rows, Rect n rows → (∀ i, mg rows c i ≤ 4000000000000000000) → endI c f rows = true →
    (colI c f rows).2.length = rows.length ∧ Rect n (colI c f rows).2 ∧ (∀ i, mg (colI c f rows).2 c i ≤ 4000000000000000000) ∧
    (((colI c f rows).1 = -1 ∧ ∀ i, mg (colI c f rows).2 c i = 0) ∨ (0 ≤ (colI c f rows).1 ∧ (colI c f rows).1.toNat < rows.length ∧ mg (colI c f rows).2 c (colI c f rows).1.toNat ≠ 0 ∧ ∀ i, i ≠ (colI c f rows).1.toNat → mg (colI c f rows).2 c i = 0)) := by
  intro f
  induction f with
  | zero => intro rows _ _ h; cases h
  | succ f ih =>
    intro rows hr hb h
    rw [colI_succ]
    rw [endI_succ] at h
    rcases pick_spec hb rows.length with ⟨h1, h0⟩ | ⟨h1, h2, h3, h4⟩
    · rw [if_pos (by omega)]
      exact ⟨rfl, hr, hb, .inl ⟨rfl, fun i => by
        by_cases hi : i < rows.length
        · exact h0 i hi
        · exact mg_out (rows := rows) (by omega)⟩⟩
    rw [if_neg (by omega)] at h
    rw [if_neg (by omega)]
    generalize pickF rows c rows.length = P at *
    by_cases hm : moreF rows c P.toNat rows.length = true
    · rw [if_pos hm] at h ⊢
      have := ih _ (rnd_rect hr c P.toNat) (rnd_bd hr hc hb h3) h
      rw [rnd_len] at this
      exact this
    · rw [if_neg hm]
      have hz : ∀ i, i ≠ P.toNat → mg (rnd rows c P.toNat) c i = 0 := fun i hi => Decidable.byContradiction fun hne => hm ((more_spec hr hc).2 ⟨i, hi, hne⟩)
      exact ⟨rnd_len _ _ _, rnd_rect hr c _, rnd_bd hr hc hb h3, .inr ⟨h1, h2, by rw [rnd_mg hr hc hb h3, if_pos rfl]; exact h3, hz⟩⟩
/-- A column of zeros stays so. -/
theorem colI_zero {n c t : Nat} (ht : t < n) : ∀ f rows, Rect n rows → (∀ i, mg rows t i = 0) → ∀ i, mg (colI c f rows).2 t i = 0 := by
  intro f
  induction f with
  | zero => intro rows _ h; exact h
  | succ f ih =>
    intro rows hr h
    have hr1 : ∀ j i, mg (rnd rows c j) t i = 0 := fun j i => by
      unfold mg
      rw [rnd_get]
      split
      · rename_i hh
        rw [new_cl hr ht (hit_lt hh), mg_zero.1 (h i), mg_zero.1 (h j)]
        unfold wS
        rw [Int.mul_zero, IntWalk.wrap64_in 0 ⟨by omega, by omega⟩, Int.sub_zero, IntWalk.wrap64_in 0 ⟨by omega, by omega⟩]
        rfl
      · exact h i
    rw [colI_succ]
    split
    · exact h
    · split
      · exact ih _ (rnd_rect hr c _) (hr1 _)
      · exact hr1 _
/-! How the numbers grow. -/
def gX (a b : Nat) : Nat := if 2 * b ≤ a then b * (a + b) else a * a
theorem gX_le {a b : Nat} : gX a b ≤ a * a := by
  unfold gX
  split
  · rename_i h
    have h1 : b * (a + b) ≤ b * (a + a) := Nat.mul_le_mul_left b (by omega)
    have h2 : b * (a + a) = (2 * b) * a := by rw [← Nat.two_mul, ← Nat.mul_assoc, Nat.mul_comm b 2]
    have h3 := Nat.mul_le_mul_right a h
    omega
  · exact Nat.le_refl _
theorem gX_one {a b : Nat} (ha : 2 ≤ a) (hb : 1 ≤ b) (hab : b ≤ a) : 1 + a / b ≤ gX a b := by
  unfold gX
  split
  · have h1 : 1 * (a + b) ≤ b * (a + b) := Nat.mul_le_mul_right _ hb
    have h2 := Nat.div_le_self a b
    omega
  · rename_i h
    have h1 : a / b < 2 := (Nat.div_lt_iff_lt_mul (by omega)).2 (by omega)
    have h2 : 2 * a ≤ a * a := Nat.mul_le_mul_right a ha
    omega
theorem gX_step {a b d : Nat} (hd : 1 ≤ d) (hdb : d < b) (hab : b ≤ a) (h : a < 2 * b → d ≤ a - b) : (1 + a / b) * gX b d ≤ gX a b := by
  by_cases h2 : 2 * b ≤ a
  · have h3 : gX b d ≤ b * b := gX_le
    have h4 : gX a b = b * (a + b) := by unfold gX; rw [if_pos h2]
    rw [h4]
    calc (1 + a / b) * gX b d ≤ (1 + a / b) * (b * b) := Nat.mul_le_mul_left _ h3
      _ = b * (b + a / b * b) := by rw [Nat.add_mul, Nat.one_mul, Nat.mul_add, ← Nat.mul_assoc (a / b), Nat.mul_comm (a / b * b)]
      _ ≤ b * (a + b) := Nat.mul_le_mul_left b (by have := Nat.div_mul_le_self a b; omega)
  · have hq : a / b = 1 := Nat.div_eq_of_lt_le (by omega) (by omega)
    have h4 : gX a b = a * a := by unfold gX; rw [if_neg h2]
    have hda := h (by omega)
    rw [hq, h4]
    unfold gX
    split
    · rename_i h5
      have h6 : d * (b + d) ≤ d * a := Nat.mul_le_mul_left d (by omega)
      have h7 : (2 * d) * a ≤ a * a := Nat.mul_le_mul_right a (by omega)
      rw [Nat.mul_assoc] at h7
      omega
    · rename_i h5
      have h6 : (3 * b) * (3 * b) ≤ (2 * a) * (2 * a) := Nat.mul_le_mul (by omega) (by omega)
      have e1 : (3 * b) * (3 * b) = 9 * (b * b) := by rw [Nat.mul_mul_mul_comm]
      have e2 : (2 * a) * (2 * a) = 4 * (a * a) := by rw [Nat.mul_mul_mul_comm]
      omega
theorem wS_abs {y q z : Int} (h : y.natAbs + q.natAbs * z.natAbs ≤ 4000000000000000000) : (wS y q z).natAbs ≤ y.natAbs + q.natAbs * z.natAbs := by
  unfold wS
  have h1 : (q * z).natAbs = q.natAbs * z.natAbs := Int.natAbs_mul q z
  generalize q.natAbs * z.natAbs = m at *
  generalize q * z = u at *
  rw [IntWalk.wrap64_in u ⟨by omega, by omega⟩, IntWalk.wrap64_in _ ⟨by omega, by omega⟩]
  omega
theorem rnd_grow {n : Nat} {rows : List (List Int)} (h : Rect n rows) {c j t : Nat} (ht : t < n) (hb : ∀ i, mg rows c i ≤ 4000000000000000000) (hj : mg rows c j ≠ 0) {a M : Nat} (ha : ∀ i, mg rows c i ≤ a) (hM : ∀ i, mg rows t i ≤ M) (hbig : M * (1 + a / mg rows c j) ≤ 4000000000000000000) (i : Nat) :
    mg (rnd rows c j) t i ≤ M * (1 + a / mg rows c j) := by
  have hMM : M ≤ M * (1 + a / mg rows c j) := Nat.le_mul_of_pos_right M (Nat.lt_of_lt_of_le Nat.zero_lt_one (Nat.le_add_right 1 _))
  unfold mg
  rw [rnd_get]
  split
  · rename_i hh
    rw [new_cl h ht (hit_lt hh), quoW_abs (hb i)]
    have hq : (Int.tdiv (cl (rw_ rows i) c) (cl (rw_ rows j) c)).natAbs ≤ a / mg rows c j := by
      rw [Int.natAbs_tdiv]
      exact Nat.div_le_div_right (ha i)
    have h1 := Nat.mul_le_mul hq (hM j)
    have h2 := hM i
    have h3 : (cl (rw_ rows i) t).natAbs + (Int.tdiv (cl (rw_ rows i) c) (cl (rw_ rows j) c)).natAbs * (cl (rw_ rows j) t).natAbs ≤ M * (1 + a / mg rows c j) := by
      rw [Nat.mul_add, Nat.mul_one, Nat.mul_comm M]
      exact Nat.add_le_add h2 h1
    exact Nat.le_trans (wS_abs (Nat.le_trans h3 hbig)) h3
  · exact Nat.le_trans (hM i) hMM
theorem colI_grow {n c t : Nat} (hc : c < n) (ht : t < n) : ∀ f rows, Rect n rows → ∀ a M, 2 ≤ a → a ≤ 4000000000000000000 → (∀ i, mg rows c i ≤ a) → (∀ i, mg rows t i ≤ M) →
    0 ≤ pickF rows c rows.length → M * gX a (mg rows c (pickF rows c rows.length).toNat) ≤ 4000000000000000000 → ∀ i, mg (colI c f rows).2 t i ≤ M * gX a (mg rows c (pickF rows c rows.length).toNat) := by
  intro f
  induction f with
  | zero =>
    intro rows hr a M ha ha' hca hM hp hbig i
    have hb : ∀ i, mg rows c i ≤ 4000000000000000000 := fun i => Nat.le_trans (hca i) ha'
    rcases pick_spec hb rows.length with ⟨h1, _⟩ | ⟨h1, h2, h3, h4⟩
    · omega
    have h5 := gX_one ha (Nat.pos_of_ne_zero h3) (hca _)
    exact Nat.le_trans (hM i) (Nat.le_mul_of_pos_right M (Nat.lt_of_lt_of_le Nat.zero_lt_one (Nat.le_trans (Nat.le_add_right 1 _) h5)))
  | succ f ih =>
    intro rows hr a M ha ha' hca hM hp hbig
    have hb : ∀ i, mg rows c i ≤ 4000000000000000000 := fun i => Nat.le_trans (hca i) ha'
    rcases pick_spec hb rows.length with ⟨h1, _⟩ | ⟨h1, h2, h3, h4⟩
    · omega
    rw [colI_succ, if_neg (by omega)]
    generalize (pickF rows c rows.length).toNat = j at *
    have h5 := gX_one ha (Nat.pos_of_ne_zero h3) (hca j)
    have h6 := Nat.mul_le_mul_left M h5
    have hg := rnd_grow hr ht hb h3 hca hM (Nat.le_trans h6 hbig)
    split
    · rename_i hm
      obtain ⟨i1, hi1, hm1⟩ := (more_spec hr hc).1 hm
      have hr1 := rnd_rect hr c j
      have hmg := rnd_mg hr hc hb h3
      have hb1 := rnd_bd hr hc hb h3
      have hle : ∀ i, mg (rnd rows c j) c i ≤ mg rows c j := fun i => by
        rw [hmg i]
        split
        · exact Nat.le_refl _
        · exact Nat.le_of_lt (Nat.mod_lt _ (Nat.pos_of_ne_zero h3))
      have hi1l : i1 < (rnd rows c j).length := Nat.lt_of_not_le fun h => hm1 (mg_out h)
      rcases pick_spec hb1 (rnd rows c j).length with ⟨g1, g0⟩ | ⟨g1, g2, g3, g4⟩
      · exact absurd (g0 i1 hi1l) hm1
      have hd := g4 i1 hi1l hm1
      have hv := hmg i1
      rw [if_neg hi1] at hv
      have hlt : mg (rnd rows c j) c i1 < mg rows c j := by rw [hv]; exact Nat.mod_lt _ (Nat.pos_of_ne_zero h3)
      have hnear : a < 2 * mg rows c j → mg (rnd rows c j) c i1 ≤ a - mg rows c j := fun hlt2 => by
        rw [hv]
        have hm0 : mg rows c i1 ≠ 0 := fun e => hm1 (by rw [hv, e, Nat.zero_mod])
        have hil : i1 < rows.length := by rw [rnd_len] at hi1l; exact hi1l
        have q1 := h4 i1 hil hm0
        have q2 := hca i1
        rw [Nat.mod_eq_sub_mod q1, Nat.mod_eq_of_lt (by omega)]
        omega
      have hst := gX_step (a := a) (b := mg rows c j) (d := mg (rnd rows c j) c (pickF (rnd rows c j) c (rnd rows c j).length).toNat) (by omega) (by omega) (hca j) (fun h => by have := hnear h; omega)
      have hst2 := Nat.mul_le_mul_left M hst
      rw [← Nat.mul_assoc] at hst2
      have := ih (rnd rows c j) hr1 (mg rows c j) (M * (1 + a / mg rows c j)) (by omega) (hb j) hle hg g1 (Nat.le_trans hst2 hbig)
      exact fun i => Nat.le_trans (this i) hst2
    · exact fun i => Nat.le_trans (hg i) h6
/-- In all: by the square of the column's greatest number. -/
theorem colI_sq {n c t : Nat} (hc : c < n) (ht : t < n) {f : Nat} {rows : List (List Int)} (hr : Rect n rows) {a M : Nat} (ha : 2 ≤ a) (hca : ∀ i, mg rows c i ≤ a) (hM : ∀ i, mg rows t i ≤ M) (hbig : M * (a * a) ≤ 4000000000000000000) (ha' : a ≤ 4000000000000000000) : ∀ i, mg (colI c f rows).2 t i ≤ M * (a * a) := by
  have hMM : M ≤ M * (a * a) := by
    rcases Nat.eq_zero_or_pos M with h | h
    · rw [h, Nat.zero_mul]; exact Nat.le_refl _
    · exact Nat.le_mul_of_pos_right M (Nat.mul_pos (by omega) (by omega))
  by_cases hp : 0 ≤ pickF rows c rows.length
  · have h1 : M * gX a (mg rows c (pickF rows c rows.length).toNat) ≤ M * (a * a) := Nat.mul_le_mul_left M gX_le
    exact fun i => Nat.le_trans (colI_grow hc ht f rows hr a M ha ha' hca hM hp (Nat.le_trans h1 hbig) i) h1
  · cases f with
    | zero => exact fun i => Nat.le_trans (hM i) hMM
    | succ f =>
      rw [colI_succ, if_pos (by omega)]
      exact fun i => Nat.le_trans (hM i) hMM
def negW (x : Int) : Int := wrap64 (-x)
def floorW (a b : Int) : Int := if Int.tmod a b < 0 then wrap64 (quoW a b - 1) else quoW a b
def fixR (c : Nat) (r : List Int) : List Int := if cl r c < 0 then r.map negW else r
def redR (c : Nat) (f d : List Int) : List Int := subR d (floorW (cl d c) (cl f c)) f
/-- One column's phase: what is left, what is done. -/
def phF (c : Nat) (s : List (List Int) × List (List Int)) : List (List Int) × List (List Int) :=
  if (colI c 200 s.1).1 < 0 then ((colI c 200 s.1).2, s.2)
  else ((colI c 200 s.1).2.eraseIdx (colI c 200 s.1).1.toNat, s.2.map (redR c (fixR c (rw_ (colI c 200 s.1).2 (colI c 200 s.1).1.toNat))) ++ [fixR c (rw_ (colI c 200 s.1).2 (colI c 200 s.1).1.toNat)])
def hermS (rows : List (List Int)) (k : Nat) : List (List Int) × List (List Int) := (List.range k).foldl (fun s c => phF c s) (rows, [])
theorem hermS_succ (rows : List (List Int)) (k : Nat) : hermS rows (k + 1) = phF k (hermS rows k) := by
  unfold hermS
  rw [List.range_succ, List.foldl_append]
  rfl
def B64 (rows : List (List Int)) : Prop := ∀ i t, I64 (cl (rw_ rows i) t)
theorem wS_64 (y q z : Int) : I64 (wS y q z) := by
  unfold wS
  exact I64_wrap0 _
theorem cl_out {r : List Int} {t : Nat} (h : r.length ≤ t) : cl r t = 0 := by
  unfold cl
  rw [List.getD_eq_getElem?_getD, List.getElem?_eq_none h]; rfl
theorem subR_64 (r : List Int) (q : Int) (b : List Int) (t : Nat) : I64 (cl (subR r q b) t) := by
  by_cases h : t < r.length
  · rw [subR_cl _ _ _ _ h]; exact wS_64 _ _ _
  · rw [cl_out (by rw [subR_len]; omega)]; exact ⟨by decide, by decide⟩
/-- The place of a row's first number other than 0; its length if there is none. -/
def pivF : List Int → Nat
  | [] => 0
  | x :: r => if x ≠ 0 then 0 else pivF r + 1
theorem piv_le : ∀ r : List Int, pivF r ≤ r.length
  | [] => Nat.le_refl _
  | x :: r => by
    unfold pivF
    have := piv_le r
    split
    · exact Nat.zero_le _
    · simp only [List.length_cons]; omega
theorem cl_cons (x : Int) (r : List Int) (t : Nat) : cl (x :: r) (t + 1) = cl r t := rfl
theorem piv_at : ∀ r : List Int, pivF r < r.length → cl r (pivF r) ≠ 0
  | [], h => by cases h
  | x :: r, h => by
    unfold pivF at h ⊢
    split
    · rename_i hx; exact hx
    · rename_i hx
      rw [if_neg hx] at h
      rw [cl_cons]
      exact piv_at r (by simpa using h)
theorem piv_zero : ∀ (r : List Int) (t : Nat), t < pivF r → cl r t = 0
  | [], t, h => by cases h
  | x :: r, t, h => by
    unfold pivF at h
    split at h
    · cases h
    · rename_i hx
      match t with
      | 0 => exact Decidable.not_not.1 hx
      | t + 1 => rw [cl_cons]; exact piv_zero r t (by omega)
theorem piv_eq {r : List Int} {p : Nat} (h0 : ∀ t, t < p → cl r t = 0) (h : cl r p ≠ 0) : pivF r = p := by
  have hp : p < r.length := Nat.lt_of_not_le fun hl => h (cl_out hl)
  rcases Nat.lt_trichotomy (pivF r) p with h1 | h1 | h1
  · exact absurd (h0 _ h1) (piv_at r (by omega))
  · exact h1
  · exact absurd (piv_zero r p h1) h
theorem wS_zero {y q : Int} (hy : I64 y) : wS y q 0 = y := by
  unfold wS
  rw [Int.mul_zero, IntWalk.wrap64_in 0 ⟨by omega, by omega⟩, Int.sub_zero]
  exact IntWalk.wrap64_in _ hy
def bA : Nat → Nat
  | 0 => 100
  | 1 => 1000000
  | _ => 1000000000000000000
theorem bA_le (c : Nat) : 2 ≤ bA c ∧ bA c ≤ 1000000000000000000 := by
  unfold bA
  split <;> omega
theorem bA_step {c : Nat} (h : c ≤ 1) : bA c * (bA c * bA c) = bA (c + 1) := by
  have : c = 0 ∨ c = 1 := by omega
  rcases this with rfl | rfl <;> rfl
structure PhI (n c : Nat) (s : List (List Int) × List (List Int)) : Prop where
  rect : Rect n s.1
  zero : ∀ t, t < c → ∀ i, mg s.1 t i = 0
  bd : ∀ t, c ≤ t → t < n → ∀ i, mg s.1 t i ≤ bA c
  l64 : ∀ i t, I64 (cl (rw_ s.1 i) t)
  olen : ∀ d ∈ s.2, d.length = n
  o64 : ∀ d ∈ s.2, ∀ t, I64 (cl d t)
  opiv : ∀ d ∈ s.2, pivF d < c
  ech : s.2.Pairwise fun d e => pivF d < pivF e
theorem endI_le (c : Nat) {f g : Nat} (h : f ≤ g) {rows : List (List Int)} (he : endI c f rows = true) : endI c g rows = true := by
  induction h with
  | refl => exact he
  | step _ ih => exact (endI_mono c _ _ ih).1
theorem end200 {n c : Nat} (hc : c < n) {rows : List (List Int)} (hr : Rect n rows) (hb : ∀ i, mg rows c i ≤ bA c) : endI c 200 rows = true :=
  endI_le c (show 2 * 60 + 1 ≤ 200 by decide) (endI_pow hc 60 (by decide) rows hr fun i => by have := hb i; have := (bA_le c).2; omega)
theorem col_eq {n c : Nat} (hc : c < n) {rows : List (List Int)} (hr : Rect n rows) (hb : ∀ i, mg rows c i ≤ bA c) (b : Int) : colS c 10000 b rows = colI c 200 rows :=
  colS_eq hc 200 rows hr (fun i => by have := hb i; have := (bA_le c).2; omega) (end200 hc hr hb) 9799 b
theorem colI_64 {c : Nat} : ∀ f rows, (∀ i t, I64 (cl (rw_ rows i) t)) → ∀ i t, I64 (cl (rw_ (colI c f rows).2 i) t) := by
  intro f
  induction f with
  | zero => intro rows h; exact h
  | succ f ih =>
    intro rows h
    have h1 : ∀ j i t, I64 (cl (rw_ (rnd rows c j) i) t) := fun j i t => by
      rw [rnd_get]
      split
      · exact subR_64 _ _ _ _
      · exact h i t
    rw [colI_succ]
    split
    · exact h
    · split
      · exact ih _ (h1 _)
      · exact h1 _
theorem rw_erase (l : List (List Int)) (j i : Nat) : rw_ (l.eraseIdx j) i = rw_ l (if i < j then i else i + 1) := by
  unfold rw_
  rw [List.getD_eq_getElem?_getD, List.getD_eq_getElem?_getD, List.getElem?_eraseIdx]
  split <;> rfl
theorem fix_len (c : Nat) (r : List Int) : (fixR c r).length = r.length := by unfold fixR; split <;> simp
theorem neg_cl (r : List Int) (t : Nat) : cl (r.map negW) t = negW (cl r t) := by
  unfold cl
  rw [List.getD_eq_getElem?_getD, List.getD_eq_getElem?_getD, List.getElem?_map]
  cases r[t]? with
  | none => show (0 : Int) = negW 0; unfold negW; rw [Int.neg_zero, IntWalk.wrap64_in 0 ⟨by omega, by omega⟩]
  | some x => rfl
theorem negW_zero : negW 0 = 0 := by unfold negW; rw [Int.neg_zero, IntWalk.wrap64_in 0 ⟨by omega, by omega⟩]
theorem fix_zero {c : Nat} {r : List Int} {t : Nat} (h : cl r t = 0) : cl (fixR c r) t = 0 := by
  unfold fixR
  split
  · rw [neg_cl, h]; exact negW_zero
  · exact h
theorem fix_pos {c : Nat} {r : List Int} (h : cl r c ≠ 0) (hb : (cl r c).natAbs ≤ 4000000000000000000) : 0 < cl (fixR c r) c := by
  unfold fixR
  split
  · rw [neg_cl]; unfold negW; rw [IntWalk.wrap64_in _ ⟨by omega, by omega⟩]; omega
  · omega
theorem fix_64 {c : Nat} {r : List Int} (h : ∀ t, I64 (cl r t)) (t : Nat) : I64 (cl (fixR c r) t) := by
  unfold fixR
  split
  · rw [neg_cl]; exact I64_wrap0 _
  · exact h t
theorem redR_len (c : Nat) (f d : List Int) : (redR c f d).length = d.length := subR_len _ _ _
theorem redR_cl {c : Nat} {f d : List Int} {t : Nat} (h : cl f t = 0) (hd : I64 (cl d t)) : cl (redR c f d) t = cl d t := by
  by_cases ht : t < d.length
  · unfold redR
    rw [subR_cl _ _ _ _ ht, h, wS_zero hd]
  · rw [cl_out (by rw [redR_len]; omega), cl_out (by omega)]
theorem redR_piv {c : Nat} {f d : List Int} (hf : ∀ t, t < c → cl f t = 0) (hd : ∀ t, I64 (cl d t)) (hp : pivF d < c) (hl : pivF d < d.length) : pivF (redR c f d) = pivF d := by
  refine piv_eq (fun t ht => ?_) ?_
  · rw [redR_cl (hf t (by omega)) (hd t)]; exact piv_zero d t ht
  · rw [redR_cl (hf _ hp) (hd _)]; exact piv_at d hl
theorem phI_step {n c : Nat} (hn : n ≤ 3) (hc : c < n) {s : List (List Int) × List (List Int)} (h : PhI n c s) : PhI n (c + 1) (phF c s) ∧ ((colI c 200 s.1).1 < 0 ∨ (0 < cl (fixR c (rw_ (colI c 200 s.1).2 (colI c 200 s.1).1.toNat)) c ∧ (colI c 200 s.1).1.toNat < (colI c 200 s.1).2.length)) := by
  have hb0 := h.bd c (Nat.le_refl _) hc
  have hb : ∀ i, mg s.1 c i ≤ 4000000000000000000 := fun i => by have := hb0 i; have := (bA_le c).2; omega
  have he := end200 hc h.rect hb0
  obtain ⟨q1, q2, q3, q4⟩ := colI_spec hc 200 s.1 h.rect hb he
  have hz : ∀ t, t < c → ∀ i, mg (colI c 200 s.1).2 t i = 0 := fun t ht => colI_zero (by omega) 200 s.1 h.rect (h.zero t ht)
  have h64 := colI_64 (c := c) 200 s.1 h.l64
  have hbd : ∀ t, c + 1 ≤ t → t < n → ∀ i, mg (colI c 200 s.1).2 t i ≤ bA (c + 1) := fun t h1 h2 => by
    have hc1 : c ≤ 1 := by omega
    have := colI_sq hc h2 (f := 200) h.rect (bA_le c).1 hb0 (h.bd t (by omega) h2) (by rw [bA_step hc1]; have := (bA_le (c + 1)).2; omega) (by have := (bA_le c).2; omega)
    rw [bA_step hc1] at this
    exact this
  unfold phF
  generalize colI c 200 s.1 = R at *
  obtain ⟨P, rows⟩ := R
  simp only at *
  rcases q4 with ⟨e1, e2⟩ | ⟨e1, e2, e3, e4⟩
  · rw [if_pos (by omega)]
    refine ⟨⟨q2, fun t ht i => ?_, hbd, h64, h.olen, h.o64, fun d hd => Nat.lt_succ_of_lt (h.opiv d hd), h.ech⟩, .inl (by omega)⟩
    by_cases e : t = c
    · rw [e]; exact e2 i
    · exact hz t (by omega) i
  · rw [if_neg (by omega)]
    generalize P.toNat = j at *
    have hfz : ∀ t, t < c → cl (fixR c (rw_ rows j)) t = 0 := fun t ht => fix_zero (mg_zero.1 (hz t ht j))
    have hfp := fix_pos (c := c) (r := rw_ rows j) (fun e => e3 (mg_zero.2 e)) (q3 j)
    have hfpiv : pivF (fixR c (rw_ rows j)) = c := piv_eq hfz (by omega)
    have hjr : (rw_ rows j).length = n := q2 j (by omega)
    have hdp : ∀ d ∈ s.2, pivF (redR c (fixR c (rw_ rows j)) d) = pivF d := fun d hd => redR_piv hfz (h.o64 d hd) (h.opiv d hd) (by rw [h.olen d hd]; have := h.opiv d hd; omega)
    refine ⟨⟨fun i hi => ?_, fun t ht i => ?_, fun t h1 h2 i => ?_, fun i t => ?_, fun d hd => ?_, fun d hd t => ?_, fun d hd => ?_, ?_⟩, .inr ⟨hfp, by omega⟩⟩
    · simp only at hi ⊢
      rw [rw_erase]
      rw [List.length_eraseIdx, if_pos (by omega)] at hi
      split
      · exact q2 _ (by omega)
      · exact q2 _ (by omega)
    · unfold mg
      simp only
      rw [rw_erase]
      by_cases e : t = c
      · rw [e]
        refine e4 _ ?_
        split <;> omega
      · exact hz t (by omega) _
    · unfold mg
      simp only
      rw [rw_erase]
      exact hbd t h1 h2 _
    · simp only
      rw [rw_erase]
      exact h64 _ t
    · rcases List.mem_append.1 hd with hd | hd
      · obtain ⟨d0, hd0, rfl⟩ := List.mem_map.1 hd
        rw [redR_len]; exact h.olen d0 hd0
      · rw [List.mem_singleton.1 hd, fix_len]; exact hjr
    · rcases List.mem_append.1 hd with hd | hd
      · obtain ⟨d0, hd0, rfl⟩ := List.mem_map.1 hd
        exact subR_64 _ _ _ _
      · rw [List.mem_singleton.1 hd]; exact fix_64 (fun t => h64 j t) t
    · rcases List.mem_append.1 hd with hd | hd
      · obtain ⟨d0, hd0, rfl⟩ := List.mem_map.1 hd
        rw [hdp d0 hd0]; have := h.opiv d0 hd0; omega
      · rw [List.mem_singleton.1 hd, hfpiv]; omega
    · simp only
      refine List.pairwise_append.2 ⟨?_, List.pairwise_singleton _ _, fun d hd e he => ?_⟩
      · rw [List.pairwise_map]
        refine h.ech.imp_of_mem fun ha hb hab => ?_
        rw [hdp _ ha, hdp _ hb]; exact hab
      · obtain ⟨d0, hd0, rfl⟩ := List.mem_map.1 hd
        rw [List.mem_singleton.1 he, hfpiv, hdp d0 hd0]
        exact h.opiv d0 hd0
theorem hermS_inv {n : Nat} (hn : n ≤ 3) {rows : List (List Int)} (hr : Rect n rows) (hb : ∀ t, t < n → ∀ i, mg rows t i ≤ 100) : ∀ k, k ≤ n → PhI n k (hermS rows k) := by
  intro k
  induction k with
  | zero =>
    intro _
    refine ⟨hr, fun t ht => absurd ht (by omega), fun t _ ht => hb t ht, fun i t => ?_, fun d hd => (by cases hd), fun d hd => (by cases hd), fun d hd => (by cases hd), List.Pairwise.nil⟩
    show I64 (cl (rw_ rows i) t)
    by_cases hi : i < rows.length
    · by_cases ht : t < n
      · have := hb t ht i; unfold mg at this; exact ⟨by omega, by omega⟩
      · rw [cl_out (by rw [hr i hi]; omega)]; exact ⟨by decide, by decide⟩
    · have : rw_ rows i = [] := by unfold rw_; rw [List.getD_eq_getElem?_getD, List.getElem?_eq_none (by omega)]; rfl
      rw [this, cl_out (Nat.zero_le _)]; exact ⟨by decide, by decide⟩
  | succ k ih =>
    intro hk
    rw [hermS_succ]
    exact (phI_step hn (by omega) (ih (by omega))).1
def lenOk (n : Int) (rows : List (List Int)) : Bool := rows.all fun r => decide ((r.length : Int) = n)
def numOk (m : Int) (rows : List (List Int)) : Bool := rows.all fun r => r.all fun x => inB x (-m) m
def rowOk (n m : Int) (r : List Int) : Bool := decide ((r.length : Int) = n) && r.all fun x => inB x (-m) m
def rowsOk (n m : Int) (rows : List (List Int)) : Bool := rows.all (rowOk n m)
theorem rowsOk_eq (n m : Int) (rows : List (List Int)) : rowsOk n m rows = (lenOk n rows && numOk m rows) := by
  unfold rowsOk lenOk numOk
  induction rows with
  | nil => rfl
  | cons r rows ih =>
    simp only [List.all_cons, ih, rowOk]
    cases decide ((r.length : Int) = n) <;> cases (r.all fun x => inB x (-m) m) <;> cases (rows.all fun r => decide ((r.length : Int) = n)) <;> rfl
/-- Row i has the form's properties. -/
def hOk (rows : List (List Int)) (i : Nat) : Bool :=
  decide (pivF (rw_ rows i) < (rw_ rows i).length) && decide (0 < cl (rw_ rows i) (pivF (rw_ rows i))) && (decide (i = 0) || decide (pivF (rw_ rows (i - 1)) < pivF (rw_ rows i))) &&
    (List.range i).all fun k => inB (cl (rw_ rows k) (pivF (rw_ rows i))) 0 (cl (rw_ rows i) (pivF (rw_ rows i)) - 1)
def isHerm (rows : List (List Int)) : Bool := (List.range rows.length).all (hOk rows)
/-- The program's form, and whether the rows are accepted. -/
def hermF (n : Int) (rows : List (List Int)) : List (List Int) × Bool :=
  if inB n 1 3 = false then ([], false)
  else if rowsOk n 1000000000 rows && isHerm rows then (rows, true)
  else if 100 < rows.length ∨ rowsOk n 100 rows = false then ([], false)
  else ((hermS rows n.toNat).2, true)
def rows27 (n : Int) (rows : List (List Int)) : Bool := inB n 1 3 && decide (rows.length ≤ 100) && lenOk n rows && (numOk 100 rows || (isHerm rows && numOk 1000000000 rows))
structure EchR (n : Nat) (l : List (List Int)) : Prop where
  len : ∀ d ∈ l, d.length = n
  i64 : ∀ d ∈ l, ∀ t, I64 (cl d t)
  piv : ∀ d ∈ l, pivF d < n
  ech : l.Pairwise fun d e => pivF d < pivF e
theorem pair_len {n : Nat} : ∀ (l : List (List Int)) (lo : Nat), (∀ d ∈ l, lo ≤ pivF d ∧ pivF d < n) → l.Pairwise (fun d e => pivF d < pivF e) → l.length + lo ≤ n ∨ l = []
  | [], _, _, _ => .inr rfl
  | d :: l, lo, h, hp => by
    have hd := h d (by simp)
    rw [List.pairwise_cons] at hp
    rcases pair_len l (pivF d + 1) (fun e he => ⟨hp.1 e he, (h e (by simp [he])).2⟩) hp.2 with h1 | h1
    · exact .inl (by simp only [List.length_cons]; omega)
    · exact .inl (by rw [h1]; simp only [List.length_cons, List.length_nil]; omega)
theorem EchR.length {n : Nat} {l : List (List Int)} (h : EchR n l) : l.length ≤ n := by
  rcases pair_len l 0 (fun d hd => ⟨Nat.zero_le _, h.piv d hd⟩) h.ech with h1 | h1
  · omega
  · rw [h1]; exact Nat.zero_le _
theorem rw_mem {rows : List (List Int)} {i : Nat} (h : i < rows.length) : rw_ rows i = rows[i] := by
  unfold rw_
  rw [List.getD_eq_getElem?_getD, List.getElem?_eq_getElem h]; rfl
theorem herm_at {rows : List (List Int)} (h : isHerm rows = true) {i : Nat} (hi : i < rows.length) : pivF (rw_ rows i) < (rw_ rows i).length ∧ 0 < cl (rw_ rows i) (pivF (rw_ rows i)) ∧ (i = 0 ∨ pivF (rw_ rows (i - 1)) < pivF (rw_ rows i)) := by
  unfold isHerm at h
  have := List.all_eq_true.1 h i (List.mem_range.2 hi)
  unfold hOk at this
  simp only [Bool.and_eq_true, decide_eq_true_eq, Bool.or_eq_true] at this
  exact ⟨this.1.1.1, this.1.1.2, this.1.2⟩
theorem len_mem {n : Int} {rows : List (List Int)} (h : lenOk n rows = true) {d : List Int} (hd : d ∈ rows) : (d.length : Int) = n := by
  unfold lenOk at h
  simpa using List.all_eq_true.1 h d hd
theorem num_mem {m : Int} {rows : List (List Int)} (h : numOk m rows = true) {d : List Int} (hd : d ∈ rows) {x : Int} (hx : x ∈ d) : -m ≤ x ∧ x ≤ m := by
  unfold numOk at h
  exact inB_iff.1 (List.all_eq_true.1 (List.all_eq_true.1 h d hd) x hx)
theorem cl_mem {d : List Int} {t : Nat} (h : t < d.length) : cl d t ∈ d := by
  unfold cl
  rw [List.getD_eq_getElem?_getD, List.getElem?_eq_getElem h]
  exact List.getElem_mem h
theorem num_cl {m : Int} (hm : 0 ≤ m) {rows : List (List Int)} (h : numOk m rows = true) {d : List Int} (hd : d ∈ rows) (t : Nat) : -m ≤ cl d t ∧ cl d t ≤ m := by
  by_cases ht : t < d.length
  · exact num_mem h hd (cl_mem ht)
  · rw [cl_out (by omega)]; omega
theorem done_ech {n : Int} (hn : inB n 1 3 = true) {rows : List (List Int)} (hl : lenOk n rows = true) (hm : numOk 1000000000 rows = true) (h : isHerm rows = true) : EchR n.toNat rows := by
  have hn' := inB_iff.1 hn
  refine ⟨fun d hd => by have := len_mem hl hd; omega, fun d hd t => by have := num_cl (by decide) hm hd t; exact ⟨by omega, by omega⟩, fun d hd => ?_, ?_⟩
  · obtain ⟨i, hi, rfl⟩ := List.mem_iff_getElem.1 hd
    have := (herm_at h hi).1
    rw [rw_mem hi] at this
    have := len_mem hl hd
    omega
  · rw [List.pairwise_iff_getElem]
    intro i j hi hj hij
    induction j with
    | zero => omega
    | succ j ih =>
      have h1 := (herm_at h hj).2.2
      rw [rw_mem hj, Nat.add_sub_cancel, rw_mem (show j < rows.length by omega)] at h1
      have h2 : pivF rows[j] < pivF rows[j + 1] := h1.elim (fun e => absurd e (by omega)) id
      rcases Nat.lt_or_eq_of_le (Nat.le_of_lt_succ hij) with e | e
      · exact Nat.lt_trans (ih (by omega) e) h2
      · subst e; exact h2
theorem rect_of {n : Int} (hn : inB n 1 3 = true) {rows : List (List Int)} (hl : lenOk n rows = true) : Rect n.toNat rows := by
  intro i hi
  rw [rw_mem hi]
  have := len_mem hl (List.getElem_mem hi)
  omega
theorem elim_inv {n : Int} (hn : inB n 1 3 = true) {rows : List (List Int)} (hl : lenOk n rows = true) (hm : numOk 100 rows = true) : ∀ k, k ≤ n.toNat → PhI n.toNat k (hermS rows k) := by
  have hn' := inB_iff.1 hn
  refine hermS_inv (by omega) (rect_of hn hl) fun t ht i => ?_
  by_cases hi : i < rows.length
  · unfold mg
    rw [rw_mem hi]
    have := num_cl (by decide) hm (List.getElem_mem hi) t
    omega
  · rw [mg_out (by omega)]; omega
theorem hermF_ech {n : Int} {rows : List (List Int)} (h : (hermF n rows).2 = true) : EchR n.toNat (hermF n rows).1 := by
  unfold hermF at h ⊢
  by_cases h1 : inB n 1 3 = false
  · rw [if_pos h1] at h; cases h
  rw [if_neg h1] at h ⊢
  have hn : inB n 1 3 = true := by simpa using h1
  by_cases h2 : (rowsOk n 1000000000 rows && isHerm rows) = true
  · rw [if_pos h2]
    rw [rowsOk_eq] at h2
    simp only [Bool.and_eq_true] at h2
    exact done_ech hn h2.1.1 h2.1.2 h2.2
  · rw [if_neg h2] at h ⊢
    by_cases h3 : 100 < rows.length ∨ rowsOk n 100 rows = false
    · rw [if_pos h3] at h; cases h
    rw [if_neg h3]
    have h4 : rowsOk n 100 rows = true := by simpa using fun e => h3 (.inr e)
    rw [rowsOk_eq, Bool.and_eq_true] at h4
    have := elim_inv hn h4.1 h4.2 n.toNat (Nat.le_refl _)
    exact ⟨this.olen, this.o64, this.opiv, this.ech⟩
/-- The reference accepts the same rows. -/
theorem rows27_eq (n : Int) (rows : List (List Int)) : rows27 n rows = (hermF n rows).2 := by
  unfold rows27 hermF
  by_cases h1 : inB n 1 3 = false
  · rw [if_pos h1, h1]; rfl
  have hn : inB n 1 3 = true := by simpa using h1
  rw [if_neg h1, hn, Bool.true_and, rowsOk_eq, rowsOk_eq]
  rcases hl : lenOk n rows with _ | _
  · simp
  rcases hh : isHerm rows with _ | _
  · rcases hm : numOk 100 rows with _ | _
    · simp
    · by_cases hc : rows.length ≤ 100
      · simp [hc, show ¬ 100 < rows.length by omega]
      · simp [hc, show 100 < rows.length by omega]
  · rcases hb : numOk 1000000000 rows with _ | _
    · rcases hm : numOk 100 rows with _ | _
      · simp
      · by_cases hc : rows.length ≤ 100
        · simp [hc, show ¬ 100 < rows.length by omega]
        · simp [hc, show 100 < rows.length by omega]
    · have hn' := inB_iff.1 hn
      have := (done_ech hn hl hb hh).length
      simp [show rows.length ≤ 100 by omega]
/-- And gives them the same form. -/
theorem hermF_form {n : Int} {rows : List (List Int)} (h : rows27 n rows = true) : (hermF n rows).1 = if (isHerm rows && numOk 1000000000 rows) = true then rows else (hermS rows n.toNat).2 := by
  have h0 := h
  rw [rows27_eq] at h
  unfold rows27 at h0
  simp only [Bool.and_eq_true] at h0
  obtain ⟨⟨⟨hn, _⟩, hl⟩, _⟩ := h0
  unfold hermF at h ⊢
  rw [if_neg (by rw [hn]; decide)] at h ⊢
  rw [rowsOk_eq, hl, Bool.true_and] at h ⊢
  by_cases h2 : (isHerm rows && numOk 1000000000 rows) = true
  · rw [if_pos h2, if_pos (by rw [Bool.and_comm]; exact h2)]
  · rw [if_neg h2, if_neg (by rw [Bool.and_comm]; exact h2)]
    rw [if_neg (by rw [Bool.and_comm]; exact h2)] at h
    split at h
    · cases h
    · rename_i h3; rw [if_neg h3]
/-! Membership. -/
def zeroB (v : List Int) : Bool := v.all fun x => x == 0
def latS : List (List Int) → List Int → Bool
  | [], x => zeroB x
  | r :: rs, x => if Int.tmod (cl x (pivF r)) (cl r (pivF r)) ≠ 0 then false else latS rs (subR x (quoW (cl x (pivF r)) (cl r (pivF r))) r)
def latI : List (List Int) → List Int → Bool
  | [], x => zeroB x
  | r :: rs, x => if (List.range (pivF r)).any (fun i => cl x i != 0) = true then false else if Int.tmod (cl x (pivF r)) (cl r (pivF r)) ≠ 0 then false else latI rs (subR x (quoW (cl x (pivF r)) (cl r (pivF r))) r)
theorem zeroB_cl {x : List Int} {i : Nat} (h : cl x i ≠ 0) : zeroB x = false := by
  unfold zeroB
  rw [List.all_eq_false]
  have hi : i < x.length := Nat.lt_of_not_le fun hl => h (cl_out hl)
  exact ⟨cl x i, cl_mem hi, by simpa using h⟩
theorem latS_stuck {i : Nat} : ∀ (rs : List (List Int)) (x : List Int), (∀ r ∈ rs, i < pivF r) → (∀ t, I64 (cl x t)) → cl x i ≠ 0 → latS rs x = false
  | [], x, _, _, h => zeroB_cl h
  | r :: rs, x, hr, h64, h => by
    unfold latS
    split
    · rfl
    · refine latS_stuck rs _ (fun r' hr' => hr r' (by simp [hr'])) (subR_64 _ _ _) ?_
      have hi : i < x.length := Nat.lt_of_not_le fun hl => h (cl_out hl)
      rw [subR_cl _ _ _ _ hi, piv_zero r i (hr r (by simp)), wS_zero (h64 i)]
      exact h
theorem lat_eq : ∀ (rs : List (List Int)) (x : List Int), rs.Pairwise (fun d e => pivF d < pivF e) → (∀ t, I64 (cl x t)) → latS rs x = latI rs x
  | [], _, _, _ => rfl
  | r :: rs, x, hp, h64 => by
    rw [List.pairwise_cons] at hp
    by_cases hc : (List.range (pivF r)).any (fun i => cl x i != 0) = true
    · obtain ⟨i, hi, hx⟩ := List.any_eq_true.1 hc
      have hi' := List.mem_range.1 hi
      have e1 : latI (r :: rs) x = false := by unfold latI; rw [if_pos hc]
      rw [e1]
      exact latS_stuck (i := i) (r :: rs) x (fun r' hr' => by
        rcases List.mem_cons.1 hr' with rfl | hr'
        · exact hi'
        · exact Nat.lt_trans hi' (hp.1 r' hr')) h64 (by simpa using hx)
    · unfold latS latI
      rw [if_neg hc]
      split
      · rfl
      · exact lat_eq rs _ hp.2 (subR_64 _ _ _)
def latF (rows : List (List Int)) (v : List Int) : Bool := (hermF v.length rows).2 && (v.all fun x => inB x (-1000000) 1000000) && latS (hermF v.length rows).1 v
def prodD (l : List (List Int)) (k : Nat) : Int := (List.range k).foldl (fun p i => wrap64 (p * cl (rw_ l i) i)) 1
theorem prodD_succ (l : List (List Int)) (k : Nat) : prodD l (k + 1) = wrap64 (prodD l k * cl (rw_ l k) k) := by
  unfold prodD
  rw [List.range_succ, List.foldl_append]
  rfl
def latN (rows : List (List Int)) (n : Int) : Int := if (hermF n rows).2 = true ∧ ¬ ((hermF n rows).1.length : Int) < n then prodD (hermF n rows).1 n.toNat else -1
def hd (hs : List Value) (i : Nat) : Value := hs.getD i (.slice none 0 0)
/-- The blocks of a list: its own row, then the rows. -/
def bl (v : Value) (hs : List Value) : List Nat := v.ownBlock.toList ++ (hs.map fun h => h.ownBlock.toList).flatten
structure HB (lo : Nat) (w : World) (v : Value) (hs : List Value) (L : List (List Int)) : Prop where
  row : w.ownsRow 0 30 1 v hs.length hs
  len : hs.length = L.length
  own : ∀ i, i < L.length → OwI w 0 (hd hs i) (rw_ L i)
  nd : (bl v hs).Nodup
  rg : ∀ b ∈ bl v hs, lo ≤ b ∧ b < w.heap.size
theorem hd_mem {hs : List Value} {i : Nat} (h : i < hs.length) : hd hs i = hs[i] := by
  unfold hd
  rw [List.getD_eq_getElem?_getD, List.getElem?_eq_getElem h]; rfl
theorem rwl_mem {L : List (List Int)} {i : Nat} (h : i < L.length) : rw_ L i = L[i] := by
  unfold rw_
  rw [List.getD_eq_getElem?_getD, List.getElem?_eq_getElem h]; rfl
theorem bl_hd {v : Value} {hs : List Value} {i b : Nat} (h : i < hs.length) (hb : (hd hs i).ownBlock = some b) : b ∈ bl v hs := by
  rw [hd_mem h] at hb
  exact List.mem_append.2 (.inr (List.mem_flatten.2 ⟨_, List.mem_map.2 ⟨hs[i], by simp, rfl⟩, by rw [hb]; simp⟩))
theorem bl_own {v : Value} {hs : List Value} {b : Nat} (hb : v.ownBlock = some b) : b ∈ bl v hs := List.mem_append.2 (.inl (by rw [hb]; simp))
theorem bl_mem {v : Value} {hs : List Value} {b : Nat} (h : b ∈ bl v hs) : v.ownBlock = some b ∨ ∃ i, i < hs.length ∧ (hd hs i).ownBlock = some b := by
  rcases List.mem_append.1 h with h | h
  · exact .inl (by simpa using h)
  · obtain ⟨l, hl, hb⟩ := List.mem_flatten.1 h
    obtain ⟨x, hx, rfl⟩ := List.mem_map.1 hl
    obtain ⟨i, hi, rfl⟩ := List.mem_iff_getElem.1 hx
    exact .inr ⟨i, hi, by rw [hd_mem hi]; simpa using hb⟩
theorem flat_two {hs : List Value} (hn : ((hs.map fun h => h.ownBlock.toList).flatten).Nodup) : ∀ {i j b : Nat}, i < hs.length → j < hs.length → (hd hs i).ownBlock = some b → (hd hs j).ownBlock = some b → i = j := by
  induction hs with
  | nil => intro i j b h; cases h
  | cons h hs ih =>
    intro i j b hi hj h1 h2
    rw [List.map_cons, List.flatten_cons] at hn
    obtain ⟨_, n2, n3⟩ := List.nodup_append.1 hn
    have hin : ∀ k, k < hs.length → (hd hs k).ownBlock = some b → b ∈ (hs.map fun h => h.ownBlock.toList).flatten := fun k hk hb => by
      rw [hd_mem hk] at hb
      exact List.mem_flatten.2 ⟨_, List.mem_map.2 ⟨hs[k], by simp, rfl⟩, by rw [hb]; simp⟩
    match i, j with
    | 0, 0 => rfl
    | 0, j + 1 => exact absurd rfl (n3 b (by rw [show h.ownBlock = some b from h1]; simp) b (hin j (by simpa using hj) h2))
    | i + 1, 0 => exact absurd rfl (n3 b (by rw [show h.ownBlock = some b from h2]; simp) b (hin i (by simpa using hi) h1))
    | i + 1, j + 1 => rw [ih n2 (by simpa using hi) (by simpa using hj) h1 h2]
theorem flat_single {β : Type} : ∀ l : List β, (l.map fun h => [h]).flatten = l
  | [] => rfl
  | x :: l => by rw [List.map_cons, List.flatten_cons, flat_single l]; rfl
section
variable {lo : Nat} {w w' : World} {v : Value} {hs : List Value} {L : List (List Int)}
theorem HB.two (h : HB lo w v hs L) {i j b : Nat} (hi : i < hs.length) (hj : j < hs.length) (h1 : (hd hs i).ownBlock = some b) (h2 : (hd hs j).ownBlock = some b) : i = j :=
  flat_two (List.nodup_append.1 h.nd).2.1 hi hj h1 h2
theorem HB.ne (h : HB lo w v hs L) {i b : Nat} (hi : i < hs.length) (h1 : (hd hs i).ownBlock = some b) : v.ownBlock ≠ some b := by
  intro hv
  refine (List.nodup_append.1 h.nd).2.2 b (by rw [hv]; simp) b ?_ rfl
  rw [hd_mem hi] at h1
  exact List.mem_flatten.2 ⟨_, List.mem_map.2 ⟨hs[i], by simp, rfl⟩, by rw [h1]; simp⟩
theorem OwI.keep0 {base : Nat} {s : Value} {xs : List Int} (h : OwI w base s xs) (hb : ∀ b, s.ownBlock = some b → w'.heap[b]? = w.heap[b]?) : OwI w' base s xs := ⟨ownsRow_keep h.1 hb, h.2⟩
theorem HB.keep (h : HB lo w v hs L) (hb : ∀ b ∈ bl v hs, w'.heap[b]? = w.heap[b]?) (hsz : w.heap.size ≤ w'.heap.size) : HB lo w' v hs L :=
  ⟨ownsRow_keep h.row fun b hv => hb b (bl_own hv), h.len, fun i hi => (h.own i hi).keep0 fun b hv => hb b (bl_hd (by rw [h.len]; exact hi) hv), h.nd, fun b hb' => ⟨(h.rg b hb').1, Nat.lt_of_lt_of_le (h.rg b hb').2 hsz⟩⟩
theorem HB.below (h : HB lo w v hs L) (hb : Below w.heap.size w w') : HB lo w' v hs L := h.keep (fun b hb' => hb.block b (h.rg b hb').2) hb.size
theorem HB.drew (h : HB lo w v hs L) : HB lo w.drew v hs L := ⟨h.row, h.len, h.own, h.nd, h.rg⟩
theorem HB.grown (h : HB lo w v hs L) {row : Option Nat} (hg : w.grownBy w' row) (hne : ∀ b, row = some b → b ∉ bl v hs) : HB lo w' v hs L :=
  h.keep (fun b hb => hg.block b (h.rg b hb).2 fun e => hne b e.symm hb) hg.size
theorem HB.lo_le {lo' : Nat} (h : HB lo w v hs L) (hl : lo' ≤ lo) : HB lo' w v hs L := ⟨h.row, h.len, h.own, h.nd, fun b hb => ⟨Nat.le_trans hl (h.rg b hb).1, (h.rg b hb).2⟩⟩
/-- A row's numbers change in place. -/
theorem HB.setC (h : HB lo w v hs L) {i : Nat} (hi : i < L.length) {r : List Int} (hg : w.grownBy w' (hd hs i).ownBlock) (ho : OwI w' 0 (hd hs i) r) : HB lo w' v hs (L.set i r) := by
  have hih : i < hs.length := by rw [h.len]; exact hi
  refine ⟨ownsRow_keep h.row fun b hv => hg.block b (h.rg b (bl_own hv)).2 fun e => h.ne hih e.symm hv, by rw [List.length_set]; exact h.len, fun j hj => ?_, h.nd, fun b hb => ⟨(h.rg b hb).1, Nat.lt_of_lt_of_le (h.rg b hb).2 hg.size⟩⟩
  rw [List.length_set] at hj
  rw [rw_set _ _ _ _ hi]
  split
  · rename_i e; rw [e]; exact ho
  · rename_i e
    refine (h.own j hj).keep0 fun b hv => hg.block b (h.rg b (bl_hd (by rw [h.len]; exact hj) hv)).2 fun e' => e ?_
    exact h.two (by rw [h.len]; exact hj) hih hv e'.symm
theorem hd_set (hs : List Value) (i j : Nat) (x : Value) (h : i < hs.length) : hd (hs.set i x) j = if j = i then x else hd hs j := by
  unfold hd
  rw [List.getD_eq_getElem?_getD, List.getElem?_set]
  by_cases e : i = j
  · subst e; simp [h]
  · rw [if_neg e, if_neg (fun h => e h.symm), List.getD_eq_getElem?_getD]
theorem flat_set_mem {hs : List Value} {i b : Nat} {x : Value} (h : b ∈ ((hs.set i x).map fun h => h.ownBlock.toList).flatten) : x.ownBlock = some b ∨ ∃ j, j < hs.length ∧ j ≠ i ∧ (hd hs j).ownBlock = some b := by
  obtain ⟨l, hl, hb⟩ := List.mem_flatten.1 h
  obtain ⟨y, hy, rfl⟩ := List.mem_map.1 hl
  obtain ⟨j, hj, rfl⟩ := List.mem_iff_getElem.1 hy
  have hjl : j < hs.length := by rw [List.length_set] at hj; exact hj
  rw [List.getElem_set] at hb
  by_cases e : i = j
  · rw [if_pos e] at hb; exact .inl (by simpa using hb)
  · rw [if_neg e] at hb; exact .inr ⟨j, hjl, fun h => e h.symm, by rw [hd_mem hjl]; simpa using hb⟩
theorem flat_nodup {hs : List Value} (h : ∀ i j b, i < hs.length → j < hs.length → (hd hs i).ownBlock = some b → (hd hs j).ownBlock = some b → i = j) : ((hs.map fun h => h.ownBlock.toList).flatten).Nodup := by
  induction hs with
  | nil => exact List.nodup_nil
  | cons x hs ih =>
    rw [List.map_cons, List.flatten_cons]
    refine List.nodup_append.2 ⟨by cases x.ownBlock <;> simp, ih fun i j b hi hj h1 h2 => ?_, fun a ha b hb hab => ?_⟩
    · have := h (i + 1) (j + 1) b (by simpa using hi) (by simpa using hj) h1 h2
      omega
    · subst hab
      have hx : x.ownBlock = some a := by simpa using ha
      obtain ⟨l, hl, hb'⟩ := List.mem_flatten.1 hb
      obtain ⟨y, hy, rfl⟩ := List.mem_map.1 hl
      obtain ⟨j, hj, rfl⟩ := List.mem_iff_getElem.1 hy
      have := h 0 (j + 1) a (by simp) (by simpa using hj) hx (by show (hd hs j).ownBlock = some a; rw [hd_mem hj]; simpa using hb')
      omega
theorem HB.mk2 (row : w.ownsRow 0 30 1 v hs.length hs) (len : hs.length = L.length) (own : ∀ i, i < L.length → OwI w 0 (hd hs i) (rw_ L i))
    (ne : ∀ i b, i < hs.length → (hd hs i).ownBlock = some b → v.ownBlock ≠ some b) (two : ∀ i j b, i < hs.length → j < hs.length → (hd hs i).ownBlock = some b → (hd hs j).ownBlock = some b → i = j)
    (r0 : ∀ b, v.ownBlock = some b → lo ≤ b ∧ b < w.heap.size) (r1 : ∀ i b, i < hs.length → (hd hs i).ownBlock = some b → lo ≤ b ∧ b < w.heap.size) : HB lo w v hs L := by
  refine ⟨row, len, own, List.nodup_append.2 ⟨by cases v.ownBlock <;> simp, flat_nodup two, fun a ha b hb hab => ?_⟩, fun b hb => (bl_mem hb).elim (r0 b) fun ⟨i, hi, h⟩ => r1 i b hi h⟩
  subst hab
  obtain ⟨l, hl, hb'⟩ := List.mem_flatten.1 hb
  obtain ⟨y, hy, rfl⟩ := List.mem_map.1 hl
  obtain ⟨j, hj, rfl⟩ := List.mem_iff_getElem.1 hy
  exact ne j a hj (by rw [hd_mem hj]; simpa using hb') (by simpa using ha)
/-- A new row is stored into the list. -/
theorem HB.setH {g n cap : Nat} (h : HB lo w (.slice (some ⟨g, 0, none⟩) n cap) hs L) {i : Nat} (hi : i < L.length) {x : Value} {r : List Int} (ho : OwI w 0 x r) (hx : ∀ b, x.ownBlock = some b → lo ≤ b ∧ b ∉ bl (.slice (some ⟨g, 0, none⟩) n cap) hs) :
    HB lo (w.setCell ⟨g, i, none⟩ x) (.slice (some ⟨g, 0, none⟩) n cap) (hs.set i x) (L.set i r) := by
  have hih : i < hs.length := by rw [h.len]; exact hi
  obtain rfl : hs.length = n := by
    rcases h.row.2 with ⟨hv, _⟩ | ⟨_, _, _, hv, _⟩
    · cases hv
    · injection hv with _ e _; exact e.symm
  have hst := h.row.stored i x
  have hgs : ∀ b, b ≠ g → (w.setCell ⟨g, i, none⟩ x).heap[b]? = w.heap[b]? := fun b hb => Below.heap_setCell w _ x b hb
  have hsz : (w.setCell ⟨g, i, none⟩ x).heap.size = w.heap.size := by simp
  have hgl := h.rg g (bl_own rfl)
  refine HB.mk2 (by rw [List.length_set]; exact hst.1) (by rw [List.length_set, List.length_set]; exact h.len) (fun j hj => ?_) (fun j b hj hb hv => ?_) (fun j k b hj hk h1 h2 => ?_) (fun b hb => ?_) (fun j b hj hb => ?_)
  · rw [List.length_set] at hj
    rw [rw_set _ _ _ _ hi, hd_set _ _ _ _ hih]
    split
    · exact ho.keep0 fun b hb => hgs b fun e => (hx b hb).2 (by rw [e]; exact bl_own rfl)
    · exact (h.own j hj).keep0 fun b hb => hgs b fun e => h.ne (by rw [h.len]; exact hj) hb (by rw [e]; rfl)
  · rw [List.length_set] at hj
    rw [hd_set _ _ _ _ hih] at hb
    split at hb
    · exact (hx b hb).2 (bl_own hv)
    · exact h.ne hj hb hv
  · rw [List.length_set] at hj hk
    rw [hd_set _ _ _ _ hih] at h1 h2
    split at h1 <;> split at h2
    · omega
    · exact absurd (bl_hd hk h2) (hx b h1).2
    · exact absurd (bl_hd hj h1) (hx b h2).2
    · exact h.two hj hk h1 h2
  · rw [hsz]; exact h.rg b (bl_own hb)
  · rw [List.length_set] at hj
    rw [hd_set _ _ _ _ hih] at hb
    rw [hsz]
    split at hb
    · exact ⟨(hx b hb).1, (ho.1.lt b hb).2⟩
    · exact h.rg b (bl_hd hj hb)
/-- The list is a list of its own. -/
theorem HB.owII (h : HB lo w v hs L) : OwII lo w.heap.size v L w := by
  have hz : ∀ (hs : List Value) (L : List (List Int)), hs.length = L.length → ((hs.zip L).map fun p => p.1) = hs ∧ ((hs.zip L).map fun p => p.2) = L := by
    intro hs L hl
    exact ⟨List.map_fst_zip (by omega), List.map_snd_zip (by omega)⟩
  obtain ⟨z1, z2⟩ := hz hs L h.len
  refine ⟨bl v hs, ⟨(hs.zip L).map fun p => ([p.1], p.2, p.1.ownBlock.toList), ?_, ?_, ?_, ?_⟩, h.nd, h.rg⟩
  · rw [List.map_map]; exact z2
  · intro e he
    obtain ⟨p, hp, rfl⟩ := List.mem_map.1 he
    obtain ⟨i, hi, rfl⟩ := List.mem_iff_getElem.1 hp
    rw [List.length_zip] at hi
    have hiL : i < L.length := by omega
    have hih : i < hs.length := by omega
    rw [List.getElem_zip]
    have := h.own i hiL
    rw [hd_mem hih, rwl_mem hiL] at this
    exact ⟨rfl, hs[i], rfl, this, rfl⟩
  · have e1 : ((hs.zip L).map fun p => (([p.1], p.2, p.1.ownBlock.toList) : List Value × List Int × List Nat)).length = hs.length := by rw [List.length_map, List.length_zip, h.len]; omega
    have e2 : ((((hs.zip L).map fun p => (([p.1], p.2, p.1.ownBlock.toList) : List Value × List Int × List Nat)).map (·.1)).flatten) = hs := by
      rw [List.map_map]
      have : ((hs.zip L).map ((fun x => x.1) ∘ fun p => (([p.1], p.2, p.1.ownBlock.toList) : List Value × List Int × List Nat))) = ((hs.zip L).map fun p => p.1).map fun h => [h] := by rw [List.map_map]; rfl
      rw [this, z1]
      exact flat_single hs
    rw [e1, e2]
    exact h.row
  · unfold bl
    congr 2
    rw [List.map_map]
    have : ((hs.zip L).map ((fun x => x.2.2) ∘ fun p => (([p.1], p.2, p.1.ownBlock.toList) : List Value × List Int × List Nat))) = ((hs.zip L).map fun p => p.1).map fun h => h.ownBlock.toList := by rw [List.map_map]; rfl
    rw [this, z1]
/-- The other way round. -/
theorem OwII.hb {hi : Nat} (h : OwII lo hi v L w) (hhi : hi ≤ w.heap.size) : ∃ hs, HB lo w v hs L := by
  obtain ⟨F, ⟨es, h1, h2, h3, rfl⟩, hn, hF⟩ := h
  have hl : es.length = L.length := by rw [← h1]; simp
  obtain ⟨f1, f2⟩ := flat_ones es fun e he => (h2 e he).1
  have hk : ∀ i (hi : i < es.length), ∃ s, es[i].1 = [s] ∧ hd (es.map (·.1)).flatten i = s ∧ OwI w 0 s es[i].2.1 ∧ es[i].2.2 = s.ownBlock.toList := fun i hi => by
    obtain ⟨s, hs, ho, hFs⟩ := (h2 es[i] (by simp)).2
    have hif : i < ((es.map (·.1)).flatten).length := by omega
    have e := f2 i hi hif
    rw [hs] at e
    injection e with e
    exact ⟨s, hs, by rw [hd_mem hif]; exact e.symm, ho, hFs⟩
  have hfl : ((es.map (·.1)).flatten.map fun h => h.ownBlock.toList) = es.map (·.2.2) := by
    refine List.ext_getElem (by rw [List.length_map, List.length_map, f1]) fun i a1 a2 => ?_
    rw [List.length_map] at a1 a2
    obtain ⟨s, q1, q2, q3, q4⟩ := hk i (by omega)
    rw [List.getElem_map, List.getElem_map, q4, ← q2, hd_mem a1]
  have hbl : bl v (es.map (·.1)).flatten = v.ownBlock.toList ++ (es.map (·.2.2)).flatten := by unfold bl; rw [hfl]
  refine ⟨(es.map (·.1)).flatten, ⟨by rw [f1]; exact h3, by omega, fun i hi => ?_, by rw [hbl]; exact hn, fun b hb => ?_⟩⟩
  · obtain ⟨s, q1, q2, q3, q4⟩ := hk i (by omega)
    rw [q2, rwl_mem hi]
    have : es[i].2.1 = L[i] := by simp [← h1]
    rw [← this]; exact q3
  · rw [hbl] at hb
    have := hF b hb
    omega
end
theorem hd_erase (hs : List Value) (i j : Nat) : hd (hs.eraseIdx i) j = hd hs (if j < i then j else j + 1) := by
  unfold hd
  rw [List.getD_eq_getElem?_getD, List.getD_eq_getElem?_getD, List.getElem?_eraseIdx]
  split <;> rfl
theorem er_len {β : Type} {l : List β} {i : Nat} (h : i < l.length) : (l.eraseIdx i).length = l.length - 1 := by
  rw [List.length_eraseIdx, if_pos h]
section
variable {lo : Nat} {w w' : World} {v v' : Value} {hs : List Value} {L : List (List Int)}
theorem HB.len0 {A : Option Addr} {n cap : Nat} (h : HB lo w (.slice A n cap) hs L) : n = L.length ∧ n = hs.length := by
  have h1 : hs.length = n := by
    rcases h.row.2 with ⟨hv, hn⟩ | ⟨_, _, _, hv, _⟩
    · injection hv with _ e _; omega
    · injection hv with _ e _; exact e.symm
  exact ⟨by rw [← h1, h.len], h1.symm⟩
theorem HB.form (h : HB lo w v hs L) : ∃ A cap, v = .slice A L.length cap ∧ L.length ≤ cap ∧ cap ≤ maxLen ∧ (0 < L.length → ∃ g, A = some ⟨g, 0, none⟩ ∧ lo ≤ g ∧ g < w.heap.size) := by
  obtain ⟨A, cap, hv, a, b, c, d⟩ := owns_form h.row
  rw [h.len] at hv a d
  refine ⟨A, cap, hv, a, b, fun h0 => ?_⟩
  obtain ⟨g, hA, _, _⟩ := d h0
  have := h.rg g (bl_own (by rw [hv, hA]; rfl))
  exact ⟨g, hA, this⟩
/-- Row k: where its header lies, and the row. -/
theorem HB.at {g n cap k : Nat} (h : HB lo w (.slice (some ⟨g, 0, none⟩) n cap) hs L) (hk : k < L.length) : w.cell? ⟨g, k, none⟩ = some (hd hs k) ∧ OwI w 0 (hd hs k) (rw_ L k) := by
  obtain ⟨e1, e2⟩ := h.len0
  subst e2
  refine ⟨?_, h.own k hk⟩
  have hkh : k < hs.length := by rw [h.len]; exact hk
  have := h.row.cellAt k (by rw [Nat.mul_one]; exact hkh)
  rw [this, List.getElem?_eq_getElem hkh, hd_mem hkh]
theorem HB.row_form (h : HB lo w v hs L) {k : Nat} (hk : k < L.length) (h0 : 0 < (rw_ L k).length) : ∃ gk ck, hd hs k = .slice (some ⟨gk, 0, none⟩) (rw_ L k).length ck ∧ lo ≤ gk ∧ gk < w.heap.size ∧ (rw_ L k).length ≤ ck ∧ ck ≤ maxLen := by
  obtain ⟨A, c, hv, hc, hm, _, hf⟩ := OwI.form (h.own k hk)
  obtain ⟨gk, hA, _⟩ := hf h0
  have := h.rg gk (bl_hd (i := k) (by rw [h.len]; exact hk) (by rw [hv, hA]; rfl))
  exact ⟨gk, c, by rw [hv, hA], this.1, this.2, hc, hm⟩
theorem HB.erase {g n cap i : Nat} (h : HB lo w (.slice (some ⟨g, 0, none⟩) n cap) hs L) (hi : i < L.length) (hrow : w'.ownsRow 0 30 1 v' (hs.length - 1) (hs.take i ++ hs.drop (i + 1))) (hg : w.grownBy w' (some g)) (hat : v'.ownBlock = some g ∨ v'.ownBlock = some w.heap.size) :
    HB lo w' v' (hs.eraseIdx i) (L.eraseIdx i) ∧ OwI w' 0 (hd hs i) (rw_ L i) ∧ ∀ b, (hd hs i).ownBlock = some b → b ∉ bl v' (hs.eraseIdx i) ∧ lo ≤ b ∧ b < w'.heap.size := by
  have hih : i < hs.length := by rw [h.len]; exact hi
  have hgl := h.rg g (bl_own rfl)
  have hsz := hg.size
  have hrg : ∀ j b, j < hs.length → (hd hs j).ownBlock = some b → lo ≤ b ∧ b < w.heap.size ∧ b ≠ g := fun j b hj hb => ⟨(h.rg b (bl_hd hj hb)).1, (h.rg b (bl_hd hj hb)).2, fun e => h.ne hj hb (by rw [e]; rfl)⟩
  have hko : ∀ j, j < L.length → OwI w' 0 (hd hs j) (rw_ L j) := fun j hj => (h.own j hj).keep0 fun b hb => by
    obtain ⟨_, q2, q3⟩ := hrg j b (by rw [h.len]; exact hj) hb
    exact hg.block b q2 fun e => q3 (by injection e)
  have hvb : ∀ b, v'.ownBlock = some b → b = g ∨ b = w.heap.size := fun b hb => hat.imp (fun e => by rw [e] at hb; injection hb with hb; exact hb.symm) fun e => by rw [e] at hb; injection hb with hb; exact hb.symm
  have hidx : ∀ j, j < hs.length - 1 → (if j < i then j else j + 1) < hs.length ∧ (if j < i then j else j + 1) ≠ i := fun j hj => by split <;> omega
  have hall : HB lo w' v' (hs.eraseIdx i) (L.eraseIdx i) := by
    refine HB.mk2 ?_ ?_ (fun j hj => ?_) (fun j b hj hb hv => ?_) (fun j k b hj hk h1 h2 => ?_) (fun b hb => ?_) (fun j b hj hb => ?_)
    · rw [er_len hih, List.eraseIdx_eq_take_drop_succ]; exact hrow
    · rw [er_len hih, er_len hi, h.len]
    · rw [er_len hi] at hj
      rw [hd_erase, rw_erase]
      exact hko _ (by have := (hidx j (by rw [h.len]; exact hj)).1; rw [h.len] at this; exact this)
    · rw [er_len hih] at hj
      rw [hd_erase] at hb
      have q := hrg _ b (hidx j hj).1 hb
      rcases hvb b hv with e | e <;> omega
    · rw [er_len hih] at hj hk
      rw [hd_erase] at h1 h2
      have := h.two (hidx j hj).1 (hidx k hk).1 h1 h2
      split at this <;> split at this <;> omega
    · have hlt := (hrow.lt b hb).2
      rcases hvb b hb with e | e <;> omega
    · rw [er_len hih] at hj
      rw [hd_erase] at hb
      have q := hrg _ b (hidx j hj).1 hb
      omega
  refine ⟨hall, hko i hi, fun b hb => ⟨fun hm => ?_, (hrg i b hih hb).1, by have := (hrg i b hih hb).2.1; omega⟩⟩
  rcases bl_mem hm with hv | ⟨j, hj, hv⟩
  · have q := hrg i b hih hb
    rcases hvb b hv with e | e <;> omega
  · rw [er_len hih] at hj
    rw [hd_erase] at hv
    exact (hidx j hj).2 (h.two (hidx j hj).1 hih hv hb)
theorem HB.pushH {f : Value} {r : List Int} (h : HB lo w v hs L) (hrow : w'.ownsRow 0 30 1 v' (hs.length + 1) (hs ++ [f])) (hg : w.grownBy w' v.ownBlock) (hat : v'.ownBlock = v.ownBlock ∨ v'.ownBlock = some w.heap.size) (hlo : lo ≤ w.heap.size)
    (ho : OwI w 0 f r) (hf : ∀ b, f.ownBlock = some b → lo ≤ b ∧ b < w.heap.size ∧ b ∉ bl v hs) : HB lo w' v' (hs ++ [f]) (L ++ [r]) := by
  have hsz := hg.size
  have hblk : ∀ b, b < w.heap.size → v.ownBlock ≠ some b → w'.heap[b]? = w.heap[b]? := fun b hb hne => hg.block b hb fun e => hne e.symm
  have hfv : ∀ b, f.ownBlock = some b → v.ownBlock ≠ some b := fun b hb hv => (hf b hb).2.2 (bl_own hv)
  have hdj : ∀ j, j < hs.length → hd (hs ++ [f]) j = hd hs j := fun j hj => by unfold hd; rw [List.getD_eq_getElem?_getD, List.getD_eq_getElem?_getD, List.getElem?_append_left hj]
  have hdl : hd (hs ++ [f]) hs.length = f := by unfold hd; simp
  have hrj : ∀ j, j < L.length → rw_ (L ++ [r]) j = rw_ L j := fun j hj => by unfold rw_; rw [List.getD_eq_getElem?_getD, List.getD_eq_getElem?_getD, List.getElem?_append_left hj]
  have hrl : rw_ (L ++ [r]) L.length = r := by unfold rw_; simp
  have hvb : ∀ b, v'.ownBlock = some b → v.ownBlock = some b ∨ b = w.heap.size := fun b hb => hat.imp (fun e => by rw [← e]; exact hb) fun e => by rw [e] at hb; injection hb with hb; exact hb.symm
  refine HB.mk2 (by rw [List.length_append]; exact hrow) (by simp [h.len]) (fun j hj => ?_) (fun j b hj hb hv => ?_) (fun j k b hj hk h1 h2 => ?_) (fun b hb => ?_) (fun j b hj hb => ?_)
  · rw [List.length_append, List.length_singleton] at hj
    by_cases e : j < L.length
    · rw [hdj j (by rw [h.len]; exact e), hrj j e]
      exact (h.own j e).keep0 fun b hb => hblk b (h.rg b (bl_hd (by rw [h.len]; exact e) hb)).2 (h.ne (by rw [h.len]; exact e) hb)
    · obtain rfl : j = L.length := by omega
      rw [hrl, ← h.len, hdl]
      exact ho.keep0 fun b hb => hblk b (hf b hb).2.1 (hfv b hb)
  · rw [List.length_append, List.length_singleton] at hj
    by_cases e : j < hs.length
    · rw [hdj j e] at hb
      rcases hvb b hv with e' | e'
      · exact h.ne e hb e'
      · have := (h.rg b (bl_hd e hb)).2; omega
    · obtain rfl : j = hs.length := by omega
      rw [hdl] at hb
      rcases hvb b hv with e' | e'
      · exact hfv b hb e'
      · have := (hf b hb).2.1; omega
  · rw [List.length_append, List.length_singleton] at hj hk
    by_cases e1 : j < hs.length <;> by_cases e2 : k < hs.length
    · rw [hdj j e1] at h1; rw [hdj k e2] at h2
      exact h.two e1 e2 h1 h2
    · obtain rfl : k = hs.length := by omega
      rw [hdj j e1] at h1; rw [hdl] at h2
      exact absurd (bl_hd e1 h1) (hf b h2).2.2
    · obtain rfl : j = hs.length := by omega
      rw [hdl] at h1; rw [hdj k e2] at h2
      exact absurd (bl_hd e2 h2) (hf b h1).2.2
    · omega
  · have hlt := (hrow.lt b hb).2
    rcases hvb b hb with e | e
    · have := h.rg b (bl_own e); omega
    · omega
  · rw [List.length_append, List.length_singleton] at hj
    by_cases e : j < hs.length
    · rw [hdj j e] at hb
      have := h.rg b (bl_hd e hb); omega
    · obtain rfl : j = hs.length := by omega
      rw [hdl] at hb
      have := hf b hb; omega
/-- What the list's blocks may be, behind a push. -/
theorem bl_push {f : Value} {b : Nat} (h : b ∈ bl v' (hs ++ [f])) : v'.ownBlock = some b ∨ b ∈ bl v hs ∨ f.ownBlock = some b := by
  rcases bl_mem h with h | ⟨j, hj, h⟩
  · exact .inl h
  · rw [List.length_append, List.length_singleton] at hj
    by_cases e : j < hs.length
    · have : hd (hs ++ [f]) j = hd hs j := by unfold hd; rw [List.getD_eq_getElem?_getD, List.getD_eq_getElem?_getD, List.getElem?_append_left e]
      rw [this] at h
      exact .inr (.inl (bl_hd e h))
    · obtain rfl : j = hs.length := by omega
      have : hd (hs ++ [f]) hs.length = f := by unfold hd; simp
      rw [this] at h
      exact .inr (.inr h)
theorem bl_erase {i b : Nat} (h : b ∈ bl v' (hs.eraseIdx i)) : v'.ownBlock = some b ∨ b ∈ bl v hs := by
  rcases bl_mem h with h | ⟨j, hj, h⟩
  · exact .inl h
  · rw [hd_erase] at h
    refine .inr (bl_hd (i := if j < i then j else j + 1) ?_ h)
    rw [List.length_eraseIdx] at hj
    split at hj <;> split <;> omega
end
/-- 'append(xs, ys...)' of headers onto an owned row, at the operation. -/
theorem wp_append_hdrs {w : World} {o : Oper} {a : Act} {K : Act → World → Prop} {Q : Exit → Act → World → Prop} (s x : Operand)
    (ho : o.op = .call { callee := .builtin .append, args := #[s, x], argTypes := #[24, 24] })
    (v : Value) (xs : List Value) (hown : w.ownsRow 0 30 1 v xs.length xs) (hs : a.eval s = v) (ad : Addr) (m c : Nat) (news : List Value) (hl : news.length = m) (hn : ∀ j u, news[j]? = some u → w.cell? (ad.add j) = some u) (h1 : ∀ u ∈ news, u.oneCell' = true) (hx : a.eval x = .slice (some ad) m c)
    (hlen : xs.length + m ≤ 1073741824)
    (h : ∀ v' w', w'.ownsRow 0 30 1 v' (xs.length + m) (xs ++ news) → w.grownBy w' v.ownBlock → (v'.ownBlock = v.ownBlock ∨ v'.ownBlock = some w.heap.size) → K (a.put o.dst v') w') :
    o.wp Try.prog a w K Q := by
  obtain ⟨i0, hi0, hz0, hz1, hz2⟩ := info_parts ints_info
  obtain ⟨v', w', hrun, h2, h3, _, h5⟩ := run_append_own_at (P := Try.prog) w 0 24 o.type 30 i0 _ 1 24 Try.underlying24 hi0 hz0 hz1 hz2 rfl (by decide) v xs.length xs hown ad m c news (by rw [hl, Nat.mul_one]) hn h1 (by unfold maxLen; omega) (by omega) (Nat.zero_le _)
  unfold Oper.wp execOp
  simp only [ho, resolve, invoke, builtin, Sem.run_bind, Sem.run_pure, Result.andThen_ok, List.map_toArray, List.map_cons, List.map_nil, hs, hx, hrun]
  exact h v' w' h2 h3 h5
theorem append_hdrs {w : World} {ops : Array Oper} {rest : List Oper} {o : Oper} {a : Act} {Q : Exit → Act → World → Prop} (hgd : o.guard = none) (s x : Operand)
    (ho : o.op = .call { callee := .builtin .append, args := #[s, x], argTypes := #[24, 24] })
    (v : Value) (xs : List Value) (hown : w.ownsRow 0 30 1 v xs.length xs) (hs : a.eval s = v) (ad : Addr) (m c : Nat) (news : List Value) (hl : news.length = m) (hn : ∀ j u, news[j]? = some u → w.cell? (ad.add j) = some u) (h1 : ∀ u ∈ news, u.oneCell' = true) (hx : a.eval x = .slice (some ad) m c)
    (hlen : xs.length + m ≤ 1073741824)
    (h : ∀ v' w', w'.ownsRow 0 30 1 v' (xs.length + m) (xs ++ news) → w.grownBy w' v.ownBlock → (v'.ownBlock = v.ownBlock ∨ v'.ownBlock = some w.heap.size) → wpList Try.prog ops Q rest (a.put o.dst v') w') :
    wpList Try.prog ops Q (o :: rest) a w :=
  wpList_plain hgd fun _ hK => wp_append_hdrs s x ho v xs hown hs ad m c news hl hn h1 hx hlen fun v' w' a b c => hK _ _ (h v' w' a b c)
theorem step_append_hdrs {w : World} {ops : Array Oper} {o : Oper} {a : Act} {K : Act → World → Prop} {Q : Exit → Act → World → Prop} {E : Prop} (hgd : o.guard = none) (s x : Operand)
    (ho : o.op = .call { callee := .builtin .append, args := #[s, x], argTypes := #[24, 24] })
    (v : Value) (xs : List Value) (hown : w.ownsRow 0 30 1 v xs.length xs) (hs : a.eval s = v) (ad : Addr) (m c : Nat) (news : List Value) (hl : news.length = m) (hn : ∀ j u, news[j]? = some u → w.cell? (ad.add j) = some u) (h1 : ∀ u ∈ news, u.oneCell' = true) (hx : a.eval x = .slice (some ad) m c)
    (hlen : xs.length + m ≤ 1073741824)
    (h : ∀ v' w', w'.ownsRow 0 30 1 v' (xs.length + m) (xs ++ news) → w.grownBy w' v.ownBlock → (v'.ownBlock = v.ownBlock ∨ v'.ownBlock = some w.heap.size) → K (a.put o.dst v') w') :
    if Region.wanted o (yielded ops a.tmps) = true then Oper.wp Try.prog o a w K Q else E := by
  have hw : Region.wanted o (yielded ops a.tmps) = true := by simp [Region.wanted, hgd]
  rw [if_pos hw]
  exact wp_append_hdrs s x ho v xs hown hs ad m c news hl hn h1 hx hlen h
/-- The row's own first part. -/
theorem owns_cut {w : World} {g n cap i : Nat} {hs : List Value} (h : w.ownsRow 0 30 1 (.slice (some ⟨g, 0, none⟩) n cap) hs.length hs) (hi : i ≤ hs.length) : w.ownsRow 0 30 1 (.slice (some ⟨g, 0, none⟩) i cap) (hs.take i).length (hs.take i) := by
  rcases h.2 with ⟨hv, _⟩ | ⟨g', cap', cur, hv, hb, hh, hc, hm, hs', ht⟩
  · cases hv
  · injection hv with e1 e2 e3
    injection e1 with e1
    injection e1 with e1
    subst e1 e2 e3
    have hl : (hs.take i).length = i := by rw [List.length_take]; omega
    refine ⟨by rw [hl, Nat.mul_one], .inr ⟨g, cap, cur, by rw [hl], hb, hh, by rw [hl]; omega, hm, hs', ?_⟩⟩
    rw [hl, Nat.mul_one, ← ht, List.take_take, Nat.mul_one, Nat.min_eq_left hi]
/-- The rows' contents, read off the memory: the measure of the rounds. -/
def decV (w : World) : Value → List Int
  | .slice (some ad) n _ => (List.range n).map fun i => match w.cell? ⟨ad.block, i, none⟩ with | some (.int _ x) => x | _ => 0
  | _ => []
theorem dec_own {w : World} {v : Value} {xs : List Int} (h : OwI w 0 v xs) : decV w v = xs := by
  rcases h.1.2 with ⟨rfl, hn⟩ | ⟨g, cap, cur, rfl, _⟩
  · rw [List.eq_nil_of_length_eq_zero hn]; rfl
  · unfold decV
    refine List.ext_getElem (by simp) fun i h1 h2 => ?_
    rw [List.getElem_map, List.getElem_range, h.cellAt i h2]
def muC (c : Nat) (L : List (List Int)) : Nat := (L.map fun r => (cl r c).natAbs).sum
theorem HB.dec {lo : Nat} {w : World} {v : Value} {hs : List Value} {L : List (List Int)} (h : HB lo w v hs L) : hs.map (decV w) = L := by
  refine List.ext_getElem (by simp [h.len]) fun i h1 h2 => ?_
  rw [List.getElem_map]
  have := h.own i h2
  have hih : i < hs.length := by rw [h.len]; exact h2
  rw [hd_mem hih, rwl_mem h2] at this
  exact dec_own this
theorem piv_drop {xs : List Int} {k : Nat} (hk : k < xs.length) : pivF (xs.drop k) = if xs[k] ≠ 0 then 0 else pivF (xs.drop (k + 1)) + 1 := by
  rw [List.drop_eq_getElem_cons hk]
  rfl
set_option maxHeartbeats 400000 in
theorem pivot_any (v : Value) (xs : List Int) (w : World) (h : RdI w v xs) (hl : xs.length ≤ 1073741824) :
    Calls Try.prog 27 #[v] w fun e w' => e = .returned (.int .i64 (pivF xs)) ∧ w = w' := by
  have H := Lib.hid h
  obtain ⟨A, cap, rfl, hcap, hm, _⟩ := h.arg
  clear h
  have HP : Hid (pivF xs = pivF (xs.drop 0) + 0) := Lib.hid rfl
  generalize pivF xs = P at *
  go_enter Try.func27, Try.ntmps27
  go_wp2
  go_loop [7] (fun i => ∃ k : Nat, k ≤ xs.length ∧ i = .int .i64 k ∧ P = pivF (xs.drop k) + k) (fun i => xs.length - (intOf i).toNat)
  case atStart => exact ⟨0, Nat.zero_le _, rfl, HP.out⟩
  case round =>
    obtain ⟨k, hk, rfl, hP⟩ := hrel
    have HPK := Lib.hid hP
    clear hP
    by_cases hlt : k < xs.length
    · obtain ⟨b, off, rfl, hbl, hc⟩ := H.out.at (by omega)
      have hcell := hc k hlt
      have hd := piv_drop hlt
      clear hc
      have HD := Lib.hid hd
      clear hd
      generalize xs[k] = x at *
      rcases e1 : (x != 0) with _ | _
      · have F : Hid (P = pivF (xs.drop (k + 1)) + (k + 1)) := Lib.hid (by rw [HPK.out, HD.out, if_neg (by simpa using e1)]; omega)
        go_wp2
        go_round
        case rel => exact ⟨k + 1, by omega, by go_num, F.out⟩
        case measure => simp [intOf]; omega
      · have F : Hid (P = k) := Lib.hid (by rw [HPK.out, HD.out, if_pos (by simpa using e1)]; omega)
        go_wp2
        go_ret
        exact ⟨ret_int (by rw [F.out]), rfl⟩
    · obtain rfl : k = xs.length := by omega
      have F : Hid (P = xs.length) := Lib.hid (by rw [HPK.out, List.drop_length]; simp [pivF])
      go_wp2
      go_ret
      exact ⟨ret_int (by rw [F.out]), rfl⟩
set_option maxHeartbeats 400000 in
theorem abs_any (x : Int) (w : World) (h : I64 x) :
    Calls Try.prog 37 #[.int .i64 x] w fun e w' => e = .returned (.int .i64 (abs64 x)) ∧ w = w' := by
  have HA : Hid (max x (wrap64 (-x)) = abs64 x) := Lib.hid (by
    unfold abs64
    by_cases hm : x = -9223372036854775808
    · subst hm
      have e : wrap64 (- -9223372036854775808) = -9223372036854775808 := by unfold wrap64; decide
      rw [e]; decide
    · rw [I64.neg h hm]
      split <;> omega)
  have H := Lib.hid h
  clear h
  go_enter Try.func37, Try.ntmps37
  go_wp2
  all_goals go_ret
  all_goals (refine ⟨?_, rfl⟩; rw [← HA.out]; simp_all <;> omega)
set_option maxHeartbeats 400000 in
theorem floor_any (a b : Int) (w : World) (hb : 0 < b) :
    Calls Try.prog 38 #[.int .i64 a, .int .i64 b] w fun e w' => e = .returned (.int .i64 (floorW a b)) ∧ w = w' := by
  have hb0 : ¬ b = 0 := by omega
  have hb1 : ¬ b = -1 := by omega
  have HF : Hid (floorW a b = if Int.tmod a b < 0 then wrap64 (quoW a b - 1) else quoW a b) := Lib.hid rfl
  have HQ : Hid (quoW a b = wrap64 (Int.tdiv a b)) := Lib.hid rfl
  generalize floorW a b = F at *
  go_enter Try.func38, Try.ntmps38
  rcases e1 : decide (Int.tmod a b < 0) with _ | _
  · have HF' : Hid (F = quoW a b) := Lib.hid (by rw [HF.out, if_neg (by simpa using e1)])
    go_wp2
    go_ret
    exact ⟨ret_int (by rw [HF'.out, HQ.out]), rfl⟩
  · have HF' : Hid (F = wrap64 (quoW a b - 1)) := Lib.hid (by rw [HF.out, if_pos (by simpa using e1)])
    go_wp2
    go_ret
    exact ⟨ret_int (by rw [HF'.out, HQ.out]), rfl⟩
theorem sub_step (xs : List Int) (q : Int) (ys : List Int) (i : Nat) (h : i < xs.length) : ((subR xs q ys).take i ++ xs.drop i).set i (wS xs[i] q (cl ys i)) = (subR xs q ys).take (i + 1) ++ xs.drop (i + 1) := by
  have hl : i < (subR xs q ys).length := by rw [subR_len]; exact h
  have e : (subR xs q ys)[i] = wS xs[i] q (cl ys i) := by
    have h1 := subR_cl xs q ys i h
    unfold cl at h1
    rw [List.getD_eq_getElem?_getD, List.getElem?_eq_getElem hl, List.getD_eq_getElem?_getD, List.getElem?_eq_getElem h] at h1
    exact h1
  rw [List.set_append_right _ _ (by rw [List.length_take]; omega), List.length_take, Nat.min_eq_left (by omega), Nat.sub_self, List.drop_eq_getElem_cons h, List.set_cons_zero, List.take_succ_eq_append_getElem hl, e, List.append_assoc]
  rfl
theorem sub_at (xs : List Int) (q : Int) (ys : List Int) (i : Nat) (h : i < xs.length) (h' : i < ((subR xs q ys).take i ++ xs.drop i).length) : ((subR xs q ys).take i ++ xs.drop i)[i] = xs[i] := by
  have hl : ((subR xs q ys).take i).length = i := by rw [List.length_take, subR_len]; omega
  rw [List.getElem_append_right (by omega), List.getElem_drop]
  congr 1
  omega
theorem cl_get {ys : List Int} {i : Nat} (h : i < ys.length) : cl ys i = ys[i] := by
  unfold cl
  rw [List.getD_eq_getElem?_getD, List.getElem?_eq_getElem h]; rfl
set_option maxHeartbeats 800000 in
theorem subtract_any (v u : Value) (xs ys : List Int) (q : Int) (base : Nat) (w : World) (h : OwI w base v xs) (h' : RdI w u ys) (hne : ∀ b, u.ownBlock = some b → v.ownBlock = some b → False) (hle : xs.length ≤ ys.length) (hl : xs.length ≤ 1073741824) :
    Calls Try.prog 28 #[v, .int .i64 q, u] w fun e w' => e = .returned (.tuple #[]) ∧ OwI w' base v (subR xs q ys) ∧ w.grownBy w' v.ownBlock := by
  have H := Lib.hid h
  have H' := Lib.hid h'
  have HNE := Lib.hid hne
  obtain ⟨Au, capu, rfl, hcu, hmu, _⟩ := h'.arg
  unfold maxLen at hmu
  rcases h.1.2 with ⟨rfl, hn⟩ | ⟨g, cap, cur, rfl, hg, hh, hcap, hm, hcs, htake⟩
  · obtain rfl : xs = [] := List.eq_nil_of_length_eq_zero hn
    clear h h' hne
    go_enter Try.func28, Try.ntmps28
    go_wp2
    refine wp_loop_rounds 1 ?_
    rw [rounds_succ]
    go_wp2
    go_end0
    exact ⟨rfl, ⟨⟨rfl, .inl ⟨rfl, rfl⟩⟩, I64s_nil⟩, World.grownBy.refl _ _⟩
  · unfold maxLen at hm
    clear h h' hne hh hcs htake cur
    go_enter Try.func28, Try.ntmps28
    go_wp2
    go_loopw [9] (fun i wr => ∃ k : Nat, k ≤ xs.length ∧ i = .int .i64 k ∧ OwI wr base (.slice (some ⟨g, 0, none⟩) xs.length cap) ((subR xs q ys).take k ++ xs.drop k) ∧ w.grownBy wr (some g)) (fun i _ => xs.length - (intOf i).toNat)
    case atStart => exact ⟨0, Nat.zero_le _, rfl, by simpa using H.out, World.grownBy.refl _ _⟩
    case round =>
      obtain ⟨k, hk, rfl, hown, hgr⟩ := hrel
      by_cases hlt : k < xs.length
      · have hTl : k < ((subR xs q ys).take k ++ xs.drop k).length := by rw [List.length_append, List.length_take, List.length_drop, subR_len]; omega
        have hc0 := hown.cellAt k hTl
        rw [sub_at xs q ys k hlt hTl] at hc0
        have hf0 := hown.free k
        have hgl : g < wr.heap.size := (hown.1.lt g rfl).2
        obtain ⟨b2, off2, rfl, hb2, hcc⟩ := (H'.out.grown hgr fun b h1 h2 => HNE.out b h1 (by simpa [Value.ownBlock] using h2)).at (by omega)
        have hc1 := hcc k (by omega)
        have HS := Lib.hid (sub_step xs q ys k hlt)
        have hcl : cl ys k = ys[k] := cl_get (by omega)
        rw [hcl] at HS
        have HST : Hid (∀ z, I64 z → OwI (wr.setCell ⟨g, k, none⟩ (.int .i64 z)) base (.slice (some ⟨g, 0, none⟩) xs.length cap) (((subR xs q ys).take k ++ xs.drop k).set k z) ∧ wr.grownBy (wr.setCell ⟨g, k, none⟩ (.int .i64 z)) (some g)) := Lib.hid fun z hz => hown.set k z hz
        have HO := Lib.hid hown
        have HG := Lib.hid hgr
        have hklu : (k : Int) < (ys.length : Int) := by omega
        clear hcc hown hgr hTl hcl
        have HX : Hid (wS xs[k] q ys[k] = wrap64 (xs[k] - wrap64 (q * ys[k]))) := Lib.hid rfl
        generalize xs[k] = x at *
        generalize ys[k] = y at *
        go_wp2_with fail
        have f0 := BelW.cell hc0 hgl
        have f1 := BelW.cell hc1 hb2
        (refine wp_region_quiet_last 14 (by kernel_rfl) (by rfl) (by kernel_rfl) (by kernel_rfl) ?_; dsimp only [dumL, lastL]; (repeat (go_big_quiet_step (fail))); refine wpQuiet_nil ?_; intro wv hw'; obtain ⟨pq, hw''⟩ := hw'; have bv := pq.h; rw [← hw''] at bv; clear hw'' pq)
        have hcv := (bv.cell (p := ⟨g, k, none⟩) hgl).trans hc0
        have hfv := (bv.frozen (p := ⟨g, k, none⟩) hgl).trans hf0
        have HV := Lib.hid bv
        clear bv f0 f1 hc0 hc1 hf0
        go_wp2
        go_roundw
        case rel =>
          have o1 := HO.out.below HV.out
          have g1 : wr.grownBy wv (some g) := ⟨HV.out.os, HV.out.tape, HV.out.output, HV.out.size, fun k hk _ => HV.out.block k hk⟩
          refine ⟨k + 1, by omega, by go_num, ?_, ?_⟩
          · rw [← HS.out, HX.out]
            exact (o1.set k _ (I64_wrap0 _)).1
          · exact (HG.out.trans g1).trans (o1.set k _ (I64_wrap0 _)).2
        case measure => simp [intOf]; omega
      · obtain rfl : k = xs.length := by omega
        rw [List.drop_length, List.append_nil, ← subR_len xs q ys, List.take_length, subR_len] at hown
        have HO := Lib.hid hown
        clear hown
        go_wp2
        go_end0
        exact ⟨rfl, HO.out, hgr⟩
theorem ownsRow0 {w : World} {base : Nat} {e : TypeId} {sz n : Nat} {v : Value} {cs : List Value} (h : w.ownsRow base e sz v n cs) : w.ownsRow 0 e sz v n cs := by
  refine ⟨h.1, ?_⟩
  rcases h.2 with h0 | ⟨g, cap, cur, hv, hg, r⟩
  · exact .inl h0
  · exact .inr ⟨g, cap, cur, hv, Nat.zero_le _, r⟩
set_option maxHeartbeats 800000 in
theorem copyLists_any (v : Value) (L : List (List Int)) (w : World) (h : RdII w v L) (hl : L.length ≤ 1073741824) (hr : ∀ r ∈ L, r.length ≤ 1073741824) :
    Calls Try.prog 36 #[v] w fun e w' => ∃ r, e = .returned r ∧ OwII w.heap.size w'.heap.size r L w' ∧ Below w.heap.size w w' := by
  have H := Lib.hid h
  have HR := Lib.hid hr
  obtain ⟨A, cap, rfl, hcap, hm, _⟩ := h.form
  unfold maxLen at hm
  clear h hr
  go_enter Try.func36, Try.ntmps36
  obtain ⟨i0, hi0, hz0, hz1, hz2⟩ := info_parts ints_info
  go_wp2_with (at_make; refine wpList_make_own _ rfl _ _ 24 rfl w.heap.size 30 i0 (.slice none 0 0) 1 Try.underlying24 hi0 hz0 hz1 _ _ _ L.length rfl rfl rfl (by rw [hz2]; omega) (by unfold maxLen; omega) (Nat.le_refl _) ?_)
  intro w1 hown0 hgrow0
  have O0 : Hid (OwII w.heap.size w1.heap.size (.slice (some ⟨w.heap.size, 0, none⟩) 0 L.length) [] w1) := Lib.hid (OwnL.nil (ownsRow0 hown0) fun b hb => by have := (hown0.lt b hb); simp [Value.ownBlock] at hb; omega)
  have B0 : Hid (Below w.heap.size w w1) := Lib.hid ((Below.refl w.heap.size w).grown hgrow0 (Nat.le_refl _) (fun k h => by cases h))
  clear hown0 hgrow0
  go_wp2
  go_loopw [3, 11] (fun out i wr => ∃ k : Nat, k ≤ L.length ∧ i = .int .i64 k ∧ OwII w.heap.size wr.heap.size out (L.take k) wr ∧ Below w.heap.size w wr) (fun _ i _ => L.length - (intOf i).toNat)
  case atStart => exact ⟨0, Nat.zero_le _, rfl, O0.out, B0.out⟩
  case round =>
    obtain ⟨k, hk, rfl, hown, hbel⟩ := hrel
    have HO := Lib.hid hown
    have HB := Lib.hid hbel
    have hsz := hbel.size
    obtain ⟨Ao, co, rfl, _⟩ := OwnL.len hown
    by_cases hlt : k < L.length
    · obtain ⟨b, off, A1, cap1, rfl, hb, hcell, hc1, hm1, hrd⟩ := (H.out.below hbel).at hlt
      have HRD := Lib.hid hrd
      have hln := HR.out L[k] (by simp)
      have HTK : Hid (L.take (k + 1) = L.take k ++ [L[k]]) := Lib.hid (List.take_succ_eq_append_getElem hlt)
      have htl : (L.take k).length = k := by rw [List.length_take]; omega
      clear hown hbel hrd
      generalize L[k] = row at *
      generalize L.take k = LK at *
      subst htl
      go_wp2_with fail
      refine (copyInts_any _ row wr HRD.out hln).mono ?_
      rintro e w2 ⟨r2, rfl, o2, b2⟩
      have O2 := Lib.hid o2
      have B2 := Lib.hid b2
      have hs2 := b2.size
      obtain ⟨A2, c2, rfl, _⟩ := OwI.form o2
      clear o2 b2
      go_wp2_with (at_builtin; refine push_ints rfl (.tmp 15) (.tmp 18) rfl (w0 := wr) HO.out (by omega) (B2.out.alloc (by omega) _) rfl _ _ _ rfl (O2.out.alloc _) (Nat.le_refl _) (cell_new1 _ _ _) rfl (by omega) ?_; intro vz wz oz gz; have OZ := Lib.hid oz; have GZ := Lib.hid gz; have hz := gz.size; simp at hz; clear oz gz)
      go_roundw
      case rel => exact ⟨LK.length + 1, by omega, by go_num, by rw [HTK.out]; exact OZ.out, ((HB.out.trans (B2.out.mono (by omega))).alloc (by omega) _).grown GZ.out (by simp; omega) fun j hj => (HO.out.lt hj).1⟩
      case measure => simp [intOf]; omega
    · obtain rfl : k = L.length := by omega
      clear hown
      simp only [List.take_length] at HO ⊢
      go_wp2
      go_ret
      exact ⟨_, rfl, HO.out, hbel⟩
theorem rowsOk_no {n m : Int} {L : List (List Int)} {k : Nat} (hk : k < L.length) (h : rowOk n m L[k] = false) : rowsOk n m L = false := by
  unfold rowsOk
  rw [List.all_eq_false]
  exact ⟨L[k], by simp, by rw [h]; decide⟩
theorem rowsOk_yes {n m : Int} {L : List (List Int)} (h : ∀ k (hk : k < L.length), rowOk n m L[k] = true) : rowsOk n m L = true := by
  unfold rowsOk
  rw [List.all_eq_true]
  intro r hr
  obtain ⟨k, hk, rfl⟩ := List.mem_iff_getElem.1 hr
  exact h k hk
theorem rowOk_no {n m : Int} {r : List Int} {k : Nat} (hk : k < r.length) (h : inB r[k] (-m) m = false) : rowOk n m r = false := by
  unfold rowOk
  have : (r.all fun x => inB x (-m) m) = false := by
    rw [List.all_eq_false]
    exact ⟨r[k], by simp, by rw [h]; decide⟩
  rw [this, Bool.and_false]
theorem rowOk_yes {n m : Int} {r : List Int} (hn : (r.length : Int) = n) (h : ∀ k (hk : k < r.length), inB r[k] (-m) m = true) : rowOk n m r = true := by
  unfold rowOk
  rw [Bool.and_eq_true]
  refine ⟨by simpa using hn, ?_⟩
  rw [List.all_eq_true]
  intro x hx
  obtain ⟨k, hk, rfl⟩ := List.mem_iff_getElem.1 hx
  exact h k hk
set_option maxHeartbeats 800000 in
theorem areRows_any (v : Value) (L : List (List Int)) (n m : Int) (w : World) (h : RdII w v L) (hl : L.length ≤ 1073741824) (hm0 : 0 ≤ m) (hm1 : m ≤ 1000000000) :
    Calls Try.prog 25 #[v, .int .i64 n, .int .i64 m] w fun e w' => e = .returned (.bool (rowsOk n m L)) ∧ w = w' := by
  have H := Lib.hid h
  obtain ⟨A, cap, rfl, hcap, hm, _⟩ := h.form
  unfold maxLen at hm
  have hneg : wrap64 (-m) = -m := IntWalk.wrap64_in _ ⟨by omega, by omega⟩
  have hneg' : IntKind.i64.wrap (-m) = -m := by rw [wrap_i64_eq]; exact hneg
  clear h
  go_enter Try.func25, Try.ntmps25
  go_wp2
  go_loop [13] (fun i => ∃ k : Nat, k ≤ L.length ∧ i = .int .i64 k ∧ ∀ j (hj : j < L.length), j < k → rowOk n m L[j] = true) (fun i => L.length - (intOf i).toNat)
  case atStart => exact ⟨0, Nat.zero_le _, rfl, fun j hj h => absurd h (by omega)⟩
  case round =>
    obtain ⟨k, hk, rfl, hok⟩ := hrel
    have HOK := Lib.hid hok
    clear hok
    by_cases hlt : k < L.length
    · obtain ⟨b, off, A1, cap1, rfl, hb, hcell, hc1, hm1', hrd⟩ := H.out.at hlt
      have HRD := Lib.hid hrd
      have NO : Hid (rowOk n m L[k] = false → rowsOk n m L = false) := Lib.hid (rowsOk_no hlt)
      have YES : Hid (rowOk n m L[k] = true → ∀ j (hj : j < L.length), j < k + 1 → rowOk n m L[j] = true) := Lib.hid fun F j hj hjk => by
        rcases Nat.lt_or_eq_of_le (Nat.le_of_lt_succ hjk) with h | rfl
        · exact HOK.out j hj h
        · exact F
      unfold maxLen at hm1'
      clear hrd
      generalize L[k] = r at *
      rcases e1 : (((r.length : Nat) : Int) != n) with _ | _
      rotate_left
      · have F := Lib.hid (NO.out (by unfold rowOk; simp at e1; simp [e1]))
        go_wp2
        go_ret
        exact ⟨ret_bool F.out.symm, rfl⟩
      have hrn : (r.length : Int) = n := by simpa using e1
      have HRN := Lib.hid hrn
      clear hrn
      go_wp2
      go_loop [23] (fun i => ∃ q : Nat, q ≤ r.length ∧ i = .int .i64 q ∧ ∀ j (hj : j < r.length), j < q → inB r[j] (-m) m = true) (fun i => r.length - (intOf i).toNat)
      case atStart => exact ⟨0, Nat.zero_le _, rfl, fun j hj h => absurd h (by omega)⟩
      case round =>
        obtain ⟨q, hq, rfl, hok⟩ := hrel
        have HOK2 := Lib.hid hok
        clear hok
        by_cases hlt2 : q < r.length
        · obtain ⟨b2, off2, rfl, hb2, hcc⟩ := HRD.out.at (by omega)
          have hc2 := hcc q hlt2
          have NO2 : Hid (inB r[q] (-m) m = false → rowOk n m r = false) := Lib.hid (rowOk_no hlt2)
          have YES2 : Hid (inB r[q] (-m) m = true → ∀ j (hj : j < r.length), j < q + 1 → inB r[j] (-m) m = true) := Lib.hid fun F j hj hjk => by
            rcases Nat.lt_or_eq_of_le (Nat.le_of_lt_succ hjk) with h | rfl
            · exact HOK2.out j hj h
            · exact F
          clear hcc
          generalize r[q] = x at *
          go_wp2_with fail
          refine (within_any _ _ _ _).mono ?_
          rintro e w' ⟨rfl, rfl⟩
          rcases e2 : inB x (-m) m with _ | _
          · have F := Lib.hid (NO.out (NO2.out e2))
            go_wp2
            go_ret
            exact ⟨ret_bool F.out.symm, rfl⟩
          · have F := Lib.hid (YES2.out e2)
            go_wp2
            go_round
            case rel => exact ⟨q + 1, by omega, by go_num, F.out⟩
            case measure => simp [intOf]; omega
        · obtain rfl : q = r.length := by omega
          have F := Lib.hid (YES.out (rowOk_yes HRN.out fun k hk => HOK2.out k hk hk))
          go_wp2
          go_round
          case rel => exact ⟨k + 1, by omega, by go_num, F.out⟩
          case measure => simp [intOf]; omega
    · obtain rfl : k = L.length := by omega
      have F := Lib.hid (rowsOk_yes (n := n) (m := m) fun k hk => HOK.out k hk hk)
      go_wp2
      go_ret
      exact ⟨ret_bool F.out.symm, rfl⟩
theorem isHerm_no {L : List (List Int)} {k : Nat} (hk : k < L.length) (h : hOk L k = false) : isHerm L = false := by
  unfold isHerm
  rw [List.all_eq_false]
  exact ⟨k, List.mem_range.2 hk, by rw [h]; decide⟩
theorem isHerm_yes {L : List (List Int)} (h : ∀ k, k < L.length → hOk L k = true) : isHerm L = true := by
  unfold isHerm
  rw [List.all_eq_true]
  exact fun k hk => h k (List.mem_range.1 hk)
theorem hOk_eq {L : List (List Int)} {k : Nat} (hk : k < L.length) : hOk L k = (decide (pivF L[k] < L[k].length) && decide (0 < cl L[k] (pivF L[k])) && (decide (k = 0) || decide (pivF (rw_ L (k - 1)) < pivF L[k])) && (List.range k).all fun j => inB (cl (rw_ L j) (pivF L[k])) 0 (cl L[k] (pivF L[k]) - 1)) := by
  unfold hOk
  rw [rw_mem hk]
set_option maxHeartbeats 1600000 in
theorem isHermite_any (v : Value) (L : List (List Int)) (N : Nat) (w : World) (h : RdII w v L) (hl : L.length ≤ 1073741824) (hN : ∀ r ∈ L, r.length = N) (hN3 : N ≤ 1073741824) :
    Calls Try.prog 35 #[v] w fun e w' => e = .returned (.bool (isHerm L)) ∧ ∃ n, w' = w.drewN n := by
  have H := Lib.hid h
  have HNN := Lib.hid hN
  obtain ⟨A, cap, rfl, hcap, hm, _⟩ := h.form
  unfold maxLen at hm
  clear h hN
  go_enter Try.func35, Try.ntmps35
  go_wp2
  go_loopw [10] (fun i wr => ∃ k : Nat, k ≤ L.length ∧ i = .int .i64 k ∧ (∀ j, j < k → hOk L j = true) ∧ ∃ m, wr = w.drewN m) (fun i _ => L.length - (intOf i).toNat)
  case atStart => exact ⟨0, Nat.zero_le _, rfl, fun j h => absurd h (by omega), 0, rfl⟩
  case round =>
    obtain ⟨k, hk, rfl, hok, m0, hm0⟩ := hrel
    obtain ⟨w0, rfl⟩ : ∃ w0 : World, w0 = wr := ⟨_, rfl⟩
    have HW0 := Lib.hid hm0
    have HR0 : Hid (RdII w0 (.slice A L.length cap) L) := Lib.hid (by rw [hm0]; exact H.out.drewN m0)
    clear hm0
    have HFIN : Hid (∃ n, w0 = w.drewN n) := Lib.hid ⟨m0, HW0.out⟩
    have HOK := Lib.hid hok
    clear hok
    by_cases hlt : k < L.length
    · obtain ⟨b, off, A1, cap1, rfl, hb, hcell, hc1, hm1', hrd⟩ := HR0.out.at hlt
      have HRD := Lib.hid hrd
      have NO := Lib.hid (isHerm_no hlt)
      have YES : Hid (hOk L k = true → ∀ j, j < k + 1 → hOk L j = true) := Lib.hid fun F j hjk => by
        rcases Nat.lt_or_eq_of_le (Nat.le_of_lt_succ hjk) with h | rfl
        · exact HOK.out j h
        · exact F
      have HE := Lib.hid (hOk_eq hlt)
      have HRN := Lib.hid (HNN.out L[k] (by simp))
      unfold maxLen at hm1'
      clear hrd
      generalize L[k] = r at *
      generalize hOk L k = HK at *
      have hrl : r.length ≤ 1073741824 := by have := HRN.out; omega
      go_wp2_with fail
      refine (pivot_any _ r w0 HRD.out hrl).mono ?_
      rintro e w' ⟨rfl, rfl⟩
      have hple := piv_le r
      have HPZ := Lib.hid (piv_at r)
      have HCL : Hid (∀ j, j < r.length → ∀ h : j < r.length, cl r j = r[j]) := Lib.hid fun j hj h => cl_get h
      generalize pivF r = p at *
      rcases e1 : (((p : Nat) : Int) == ((r.length : Nat) : Int)) with _ | _
      rotate_left
      · have hpe : p = r.length := Int.ofNat_inj.mp (eq_of_beq e1)
        have F := Lib.hid (NO.out (by rw [HE.out, decide_eq_false (show ¬ p < r.length by omega)]; rfl))
        clear hpe
        go_wp2
        go_ret
        exact ⟨ret_bool F.out.symm, HFIN.out⟩
      have hpl : p < r.length := by
        have : p ≠ r.length := fun e => by rw [e] at e1; simp at e1
        omega
      obtain ⟨b2, off2, rfl, hb2, hcc⟩ := HRD.out.at (by omega)
      have hc2 := hcc p hpl
      have hyl := HCL.out p hpl hpl
      have hy0 := HPZ.out hpl
      have hyI : I64 r[p] := HRD.out.2 _ (by simp)
      rw [hyl] at HE hy0
      have hpr : (p : Int) < (r.length : Int) := by omega
      have HI : Hid (∀ (q : Nat), q < L.length → (rw_ L q).length = r.length) := Lib.hid fun q hq => by rw [rw_mem hq, HNN.out _ (List.getElem_mem hq), HRN.out]
      clear hcc hyl HCL HPZ
      generalize r[p] = y at *
      rcases e2 : decide (y < 0) with _ | _
      rotate_left
      · have F := Lib.hid (NO.out (by rw [HE.out, decide_eq_false (show ¬ 0 < y by simp at e2; omega)]; simp))
        go_wp2
        go_ret
        exact ⟨ret_bool F.out.symm, HFIN.out⟩
      have hy : 0 < y := by simp at e2; omega
      have hd1 : decide (p < r.length) = true := decide_eq_true hpl
      have hd2 : decide (0 < y) = true := decide_eq_true hy
      rw [hd1, hd2, Bool.and_self, Bool.true_and] at HE
      have hw1 : IntKind.i64.wrap (y - 1) = y - 1 := by rw [wrap_i64_eq]; exact IntWalk.wrap64_in _ ⟨by omega, by have := hyI.2; omega⟩
      have hw2 : wrap64 (y - 1) = y - 1 := IntWalk.wrap64_in _ ⟨by omega, by have := hyI.2; omega⟩
      clear hd1 hd2 hyI hy0
      rcases Nat.eq_zero_or_pos k with rfl | hk0
      · have F := Lib.hid (YES.out (by rw [HE.out]; rfl))
        go_wp2
        go_loop [46] (fun i => i = .int .i64 0) (fun i => 0)
        case atStart => exact rfl
        case round =>
          obtain rfl := hrel
          go_wp2
          go_roundw
          case rel => exact ⟨0 + 1, by omega, by go_num, F.out, HFIN.out⟩
          case measure => simp [intOf]; omega
      · have hd0 : decide (k = 0) = false := decide_eq_false (by omega)
        rw [hd0, Bool.false_or] at HE
        obtain ⟨b3, off3, A3, cap3, hA3, hb3, hcell3, hc3, hm3, hrd3⟩ := HR0.out.at (show k - 1 < L.length by omega)
        obtain ⟨rfl, rfl⟩ : b = b3 ∧ off = off3 := by simpa using hA3
        have hpv : rw_ L (k - 1) = L[k - 1] := rw_mem (by omega)
        rw [hpv] at HE
        have HRN3 := Lib.hid (HNN.out L[k - 1] (by simp))
        have HRD3 := Lib.hid hrd3
        unfold maxLen at hm3
        clear hrd3 hA3 hpv hd0
        generalize L[k - 1] = r3 at *
        have hr3l : r3.length ≤ 1073741824 := by have := HRN3.out; omega
        have hk1 : IntKind.i64.wrap ((k : Int) - 1) = ((k - 1 : Nat) : Int) := by rw [IntKind.wrap_i64]; omega
        have hk2 : wrap64 ((k : Int) - 1) = ((k - 1 : Nat) : Int) := by rw [IntWalk.wrap64_in _ ⟨by omega, by omega⟩]; omega
        have hk3 : ((k - 1 : Nat) : Int) < (L.length : Int) := by omega
        have hk4 : (0 : Int) < (k : Int) := by omega
        have hcell3' : w0.cell? ⟨b, off + (k - 1), none⟩ = some (.slice A3 r3.length cap3) := hcell3
        clear hcell3
        go_wp2_with fail
        refine (pivot_any _ r3 w0 HRD3.out hr3l).mono ?_
        rintro e w' ⟨rfl, rfl⟩
        generalize pivF r3 = p3 at *
        rcases e3 : decide (p3 < p) with _ | _
        · have F := Lib.hid (NO.out (by rw [HE.out, e3]; rfl))
          have hge : (p : Int) ≤ (p3 : Int) := by simp at e3; omega
          go_wp2
          go_ret
          exact ⟨ret_bool F.out.symm, HFIN.out⟩
        have hge : ¬ (p : Int) ≤ (p3 : Int) := by simp at e3; omega
        rw [e3, Bool.true_and] at HE
        clear e3
        go_wp2
        go_loopw [46] (fun i wr => ∃ q : Nat, q ≤ k ∧ i = .int .i64 q ∧ (∀ j, j < q → inB (cl (rw_ L j) p) 0 (y - 1) = true) ∧ ∃ m, wr = w0.drewN m) (fun i _ => k - (intOf i).toNat)
        case atStart => exact ⟨0, Nat.zero_le _, rfl, fun j h => absurd h (by omega), 0, rfl⟩
        case round =>
          obtain ⟨q, hq, rfl, hok, m1, hm1q⟩ := hrel
          have HR1 : Hid (RdII wr (.slice (some ⟨b, off, none⟩) L.length cap) L) := Lib.hid (by rw [hm1q]; exact HR0.out.drewN m1)
          have HFIN2 : Hid (∀ n, ∃ n', wr.drewN n = w.drewN n') := Lib.hid fun n => by obtain ⟨a, ha⟩ := HFIN.out; exact ⟨_, by rw [hm1q, ha, World.drewN_drewN, World.drewN_drewN]⟩
          have HFIN3 : Hid (∀ n, ∃ n', wr.drewN n = w0.drewN n') := Lib.hid fun n => ⟨_, by rw [hm1q, World.drewN_drewN]⟩
          have hc2q : wr.cell? ⟨b2, off2 + p, none⟩ = some (.int .i64 y) := by rw [hm1q]; exact hc2
          clear hm1q
          have HOK2 := Lib.hid hok
          clear hok
          by_cases hlt2 : q < k
          · obtain ⟨b4, off4, A4, cap4, hA4, hb4, hcell4, hc4, hm4, hrd4⟩ := HR1.out.at (show q < L.length by omega)
            obtain ⟨rfl, rfl⟩ : b = b4 ∧ off = off4 := by simpa using hA4
            have hr4l := HI.out q (by omega)
            have hr4 : rw_ L q = L[q] := rw_mem (by omega)
            rw [hr4] at hr4l
            have HR4 := Lib.hid hr4l
            have hpL4 : p < L[q].length := by rw [hr4l]; exact hpl
            have NO2 : Hid (inB (cl L[q] p) 0 (y - 1) = false → HK = false) := Lib.hid fun F => by
              rw [HE.out, List.all_eq_false]
              exact ⟨q, List.mem_range.2 hlt2, by rw [hr4, F]; decide⟩
            have YES2 : Hid (inB (cl L[q] p) 0 (y - 1) = true → ∀ j, j < q + 1 → inB (cl (rw_ L j) p) 0 (y - 1) = true) := Lib.hid fun F j hjk => by
              rcases Nat.lt_or_eq_of_le (Nat.le_of_lt_succ hjk) with h | rfl
              · exact HOK2.out j h
              · rw [hr4]; exact F
            unfold maxLen at hm4
            clear hA4 hr4 hr4l
            generalize L[q] = r4 at *
            obtain ⟨b5, off5, rfl, hb5, hcc5⟩ := hrd4.at (by omega)
            have hc5 := hcc5 p (by omega)
            have hcl4 : cl r4 p = r4[p] := cl_get (by omega)
            rw [hcl4] at NO2 YES2
            have hpr4 : (p : Int) < (r4.length : Int) := by omega
            clear hrd4 hcc5 hcl4
            generalize r4[p] = z at *
            rcases e5 : inB z 0 (y - 1) with _ | _
            · have HW : Hid (∀ W : World, Calls Try.prog 34 #[.int .i64 z, .int .i64 0, .int .i64 (y - 1)] W fun e w' => e = .returned (.bool false) ∧ W = w') := Lib.hid fun W => by have := within_any z 0 (y - 1) W; rw [e5] at this; exact this
              have F := Lib.hid (NO.out (NO2.out e5))
              go_wp2_with fail
              go_quiet ((go_at_call 34; first | exact quiet_left (HW.out _) | exact quiet_add_left (HW.out _)))
              go_wp2
              go_ret
              exact ⟨ret_bool F.out.symm, HFIN2.out _⟩
            · have HW : Hid (∀ W : World, Calls Try.prog 34 #[.int .i64 z, .int .i64 0, .int .i64 (y - 1)] W fun e w' => e = .returned (.bool true) ∧ W = w') := Lib.hid fun W => by have := within_any z 0 (y - 1) W; rw [e5] at this; exact this
              have F := Lib.hid (YES2.out e5)
              go_wp2_with fail
              go_quiet ((go_at_call 34; first | exact quiet_left (HW.out _) | exact quiet_add_left (HW.out _)))
              go_wp2
              go_roundw
              case rel => exact ⟨q + 1, by omega, by go_num, F.out, HFIN3.out _⟩
              case measure => simp [intOf]; omega
          · obtain rfl : q = k := by omega
            have F := Lib.hid (YES.out (by rw [HE.out, List.all_eq_true]; exact fun j hj => HOK2.out j (List.mem_range.1 hj)))
            go_wp2
            go_roundw
            case rel => exact ⟨q + 1, by omega, by go_num, F.out, HFIN2.out 0⟩
            case measure => simp [intOf]; omega
    · obtain rfl : k = L.length := by omega
      have F := Lib.hid (isHerm_yes HOK.out)
      go_wp2
      go_ret
      exact ⟨ret_bool F.out.symm, HFIN.out⟩
/-- Every operation waits for earlier ones alone; each but the last is waited for; the last is not guarded. -/
def lastD (ops : Array Oper) (n : Nat) : Bool :=
  (List.range ops.size).all (fun i => match ops[i]? with | some o => o.after.all (fun e => !Region.binds .any e || decide (e.on < i)) | none => true) &&
  (List.range n).all (fun i => (List.range ops.size).any fun j => decide (i < j) && match ops[j]? with | some o => o.after.any (fun e => Region.binds .any e && e.on == i) | none => false) &&
  match ops[n]? with | some o => o.guard.isNone | none => false

section
variable {P : Program} {ops ops' : Array Oper} {n : Nat} {C : World → Prop}

structure LastOd (ops ops' : Array Oper) (n : Nat) (st st' : Oper) : Prop where
  size : ops.size = n + 1
  size' : ops'.size = n + 1
  like : ∀ j, j < n → (ops'[j]?).map (·.after) = (ops[j]?).map (·.after) ∧ (ops'[j]?).bind (·.dst) = (ops[j]?).bind (·.dst)
  hst : ops[n]? = some st
  hst' : ops'[n]? = some st'
  after : st'.after = st.after
  dst : st'.dst = st.dst
  guard : st.guard = none
  guard' : st'.guard = none
  back : ∀ i o, ops[i]? = some o → ∀ e ∈ o.after, Region.binds .any e = true → e.on < i
  chain : ∀ i, i < n → ∃ j o, i < j ∧ ops[j]? = some o ∧ ∃ e ∈ o.after, Region.binds .any e = true ∧ e.on = i

variable {st st' : Oper}

theorem LastOd.get (h : LastOd ops ops' n st st') (j : Nat) : (ops'[j]?).map (·.after) = (ops[j]?).map (·.after) ∧ (ops'[j]?).bind (·.dst) = (ops[j]?).bind (·.dst) := by
  rcases Nat.lt_trichotomy j n with hj | rfl | hj
  · exact h.like j hj
  · rw [h.hst, h.hst']; simp [h.after, h.dst]
  · rw [Array.getElem?_eq_none (by rw [h.size']; omega), Array.getElem?_eq_none (by rw [h.size]; omega)]; exact ⟨rfl, rfl⟩
theorem LastOd.ready (h : LastOd ops ops' n st st') (listed : Array Bool) : Region.ready .any ops' listed = Region.ready .any ops listed := by
  unfold Region.ready
  rw [h.size, h.size']
  refine List.filter_congr fun i _ => ?_
  have := (h.get i).1
  congr 1
  cases e1 : ops'[i]? <;> cases e2 : ops[i]? <;> rw [e1, e2] at this <;> simp at this ⊢
  rw [this]
theorem LastOd.yielded (h : LastOd ops ops' n st st') (t : Array Value) : yielded ops' t = yielded ops t := by
  funext j
  unfold Go.yielded
  rw [(h.get j).2]

theorem LastOd.all (h : LastOd ops ops' n st st') {listed : Array Bool} (hc : Cl ops listed) (hr : n ∈ Region.ready .any ops listed) :
    ∀ (d i : Nat), n - i = d → i < n → listed.getD i false = true := by
  intro d
  induction d using Nat.strongRecOn with
  | _ d ih =>
    intro i hd hi
    obtain ⟨j, o, hij, ho, e, he, hb, rfl⟩ := h.chain i hi
    have hj : j < n + 1 := by rw [← h.size]; exact (Array.getElem?_eq_some_iff.1 ho).1
    by_cases hjn : j = n
    · subst hjn
      obtain ⟨_, o', ho', hall⟩ := mem_ready.1 hr
      rw [ho] at ho'
      injection ho' with ho'
      subst ho'
      exact hall e he hb
    · exact hc.2 j o ho (ih (n - j) (by omega) j rfl (by omega)) e he hb
theorem LastOd.done (h : LastOd ops ops' n st st') {listed : Array Bool} (hc : Cl ops listed) (hr : n ∈ Region.ready .any ops listed) :
    Region.ready .any ops (listed.setIfInBounds n true) = [] := by
  rw [List.eq_nil_iff_forall_not_mem]
  intro j hj
  obtain ⟨h0, o, ho, _⟩ := mem_ready.1 hj
  have hjn : j < n + 1 := by rw [← h.size]; exact (Array.getElem?_eq_some_iff.1 ho).1
  have hs : listed.size = n + 1 := hc.1.trans h.size
  by_cases e : n = j
  · subst e
    simp [hs] at h0
  · rw [getD_set_ne true e, getD_tf (by omega), h.all hc hr _ j rfl (by omega)] at h0
    cases h0
theorem LastOd.stuck (h : LastOd ops ops' n st st') {listed : Array Bool} (hs : listed.size = ops.size) : ∀ i, i < ops.size → listed.getD i true = false → Region.ready .any ops listed ≠ [] := by
  intro i
  induction i using Nat.strongRecOn with
  | _ i ih =>
    intro hi hl
    have ho : ops[i]? = some ops[i] := by simp [hi]
    by_cases hall : ∀ e ∈ ops[i].after, Region.binds .any e = true → listed.getD e.on false = true
    · exact List.ne_nil_of_mem (mem_ready.2 ⟨hl, _, ho, hall⟩)
    · simp only [Classical.not_forall] at hall
      obtain ⟨e, he, hb, hn⟩ := hall
      have hlt := h.back i _ ho e he hb
      exact ih e.on hlt (by omega) (by rw [getD_tf (by omega)]; simpa using hn)

theorem wpAny_of_lastD (h : LastOd ops ops' n st st') (hsame : ∀ j, j < n → ops'[j]? = ops[j]?) {Q : Act → Prop} {Q' : Exit → Act → World → Prop}
    (hQ : ∀ a w, C w → (∃ v, Q (a.put st.dst v)) → st.wp P a w (fun a w => Q' .normal a w) Q' ∨ (st.asks P a w ∧ LetsOut Q')) :
    ∀ (fuel : Nat) (listed : Array Bool) (a : Act) (w : World), C w → Cl ops listed → listed.getD n true = false →
    wpAnyQ P .any ops' C Q fuel listed a → wpAny P .any ops Q' fuel listed a w := by
  intro fuel
  induction fuel with
  | zero =>
    intro listed a w hw hc hn hh
    have := hh.1
    rw [h.ready] at this
    exact absurd this (h.stuck hc.1 n (by rw [h.size]; omega) hn)
  | succ fuel ih =>
    intro listed a w hw hc hn hh
    refine ⟨fun h0 => absurd h0 (h.stuck hc.1 n (by rw [h.size]; omega) hn), fun i hi => ?_⟩
    have hq := hh.2 i (by rw [h.ready]; exact hi)
    by_cases hin : i = n
    · subst hin
      have hd := h.done hc hi
      unfold wpOp
      unfold qOp at hq
      simp only [h.hst, h.hst'] at hq ⊢
      have w1 : Region.wanted st (Go.yielded ops a.tmps) = true := by unfold Region.wanted; rw [h.guard]
      have w2 : Region.wanted st' (Go.yielded ops' a.tmps) = true := by unfold Region.wanted; rw [h.guard']
      rw [if_pos w1]
      rw [if_pos w2] at hq
      obtain ⟨v, _, hK⟩ := hq
      rw [h.dst] at hK
      have hQa : ∃ v, Q (a.put st.dst v) := ⟨v, by
        cases fuel with
        | zero => exact hK.2
        | succ _ => exact hK.1 (by rw [h.ready]; exact hd)⟩
      exact (hQ a w hw hQa).imp (Oper.wp_mono fun a' w' hn' => wpAny_done hd hn' fuel) id
    · have hs := h.size
      obtain ⟨_, o, ho, _⟩ := mem_ready.1 hi
      have hlt : i < n := by have := (Array.getElem?_eq_some_iff.1 ho).1; omega
      have e : wpOp P ops Q' i (wpAny P .any ops Q' fuel (listed.setIfInBounds i true)) a w = wpOp P ops' Q' i (wpAny P .any ops Q' fuel (listed.setIfInBounds i true)) a w := by
        unfold wpOp
        rw [hsame i hlt, h.yielded]
      rw [e]
      exact wpOp_of_qOp hw (fun a' w' hw' hk => ih _ a' w' hw' (hc.set hi) (by rw [getD_set_ne true hin]; exact hn) hk) hq
end


theorem lastOd_of {l : List Oper} {n : Nat} (hl : l.length = n + 1) (hB : lastD l.toArray n = true) : ∃ st, lastL l = [st] ∧ LastOd l.toArray (dumL l).toArray n st { st with op := .move (.const (.bool false)) } := by
  obtain ⟨st, h1, h2, h3⟩ := dumL_last l n hl
  refine ⟨st, h2, ?_⟩
  unfold lastD at hB
  simp only [Bool.and_eq_true, List.all_eq_true, List.mem_range, List.any_eq_true, decide_eq_true_eq] at hB
  obtain ⟨⟨hb, hc⟩, hg⟩ := hB
  have hst : l.toArray[n]? = some st := by simpa using h1
  rw [hst] at hg
  simp only [Option.isNone_iff_eq_none] at hg
  have hlk : ∀ j, j < n → ((dumL l).toArray[j]?).map (·.after) = (l.toArray[j]?).map (·.after) ∧ ((dumL l).toArray[j]?).bind (·.dst) = (l.toArray[j]?).bind (·.dst) := fun j hj => by
    have e : (dumL l).toArray[j]? = l.toArray[j]? := by simpa using dumL_get l j (by omega)
    rw [e]; exact ⟨rfl, rfl⟩
  refine ⟨by simpa using hl, by simpa [dumL_len] using hl, fun j hj => hlk j hj, hst, by simpa using h3, rfl, rfl, hg, hg, fun i o ho e he hbd => ?_, fun i hi => ?_⟩
  · have hi := (Array.getElem?_eq_some_iff.1 ho).1
    have := hb i hi
    rw [ho] at this
    have := Array.all_eq_true_iff_forall_mem.1 this e he
    rw [hbd] at this
    simpa using this
  · obtain ⟨j, _, hij, hm⟩ := hc i hi
    cases ho : l.toArray[j]? with
    | none => rw [ho] at hm; cases hm
    | some o =>
      rw [ho] at hm
      obtain ⟨e, he, hb'⟩ := Array.any_eq_true'.1 hm
      simp only [Bool.and_eq_true, beq_iff_eq] at hb'
      exact ⟨j, o, hij, ho, e, he, hb'⟩


theorem put_back (a : Act) (d : Option Tmp) (v : Value) : ∃ u, (a.put d v).put d u = a := by
  cases d with
  | none => exact ⟨v, rfl⟩
  | some i =>
    refine ⟨a.tmps.getD i undef, ?_⟩
    have e : ((a.tmps.setIfInBounds i v).setIfInBounds i (a.tmps.getD i undef)) = a.tmps := by
      refine Array.ext (by simp) fun j h1 h2 => ?_
      rw [Array.getElem_setIfInBounds (by simpa using h2)]
      split
      · rename_i e; subst e; simp [h2]
      · rename_i e; rw [Array.getElem_setIfInBounds h2, if_neg e]
    show ({ a with tmps := (a.tmps.setIfInBounds i v).setIfInBounds i (a.tmps.getD i undef) } : Act) = a
    rw [e]
/-- One walk in the text's order, the call last. -/
theorem wp_region_quiet_callD {P : Program} {id : Nat} {Q : Exit → Act → World → Prop} {a : Act} {w : World} {l : List Oper} (n : Nat) (d : Option Tmp) (hm : P.follows .mixedOrders = true) (hl : l.length = n + 1) (hd : (lastL l).map (·.dst) = [d]) (hB : Region.lexB .any (dumL l).toArray = true) (hL : lastD l.toArray n = true)
    (h : wpQuiet P (dumL l).toArray (fun w' => ∃ p : BelW w, w' = p.W) (fun a' => ∀ u w', (∃ p : BelW w, w' = p.W) → wpList P (lastL l).toArray Q (lastL l) (a'.put d u) w') (dumL l) a) : (Code.region id l.toArray true).wp P Q a w := by
  obtain ⟨st, e, hok⟩ := lastOd_of hl hL
  have hgd := hok.guard
  rw [e] at hd
  obtain rfl : st.dst = d := by simpa using hd
  simp only [Region.lexB, Bool.and_eq_true] at hB
  refine wp_region_any hm (wpAny_of_lastD (C := fun w' => ∃ p : BelW w, w' = p.W) hok (fun j hj => by simpa using dumL_get l j (by omega)) (Q := fun a' => ∀ u w', (∃ p : BelW w, w' = p.W) → wpList P (lastL l).toArray Q (lastL l) (a'.put st.dst u) w') (fun a' w' hw' hq => ?_) _ _ _ _ ⟨⟨w.drew, (Below.refl _ _).drew⟩, rfl⟩ ⟨by simp, ?_⟩ ?_ ?_)
  · obtain ⟨v, hq⟩ := hq
    obtain ⟨u, hu⟩ := put_back a' st.dst v
    have := hq u w' hw'
    rw [hu, e] at this
    unfold wpList at this
    rw [if_pos (by unfold Region.wanted; rw [hgd])] at this
    exact this
  · intro j o ho hj
    exfalso
    rw [getD_replicate_false'] at hj
    cases hj
  · rw [getD_tf (by simp [hl]), getD_replicate_false']
  · have := wpAnyQ_lex (P := P) (C := fun w' => ∃ p : BelW w, w' = p.W) (md := .any) hB.1 (dumL l) 0 (Array.replicate (dumL l).toArray.size false) a (by simp) (by simpa using hB.2) h
    simpa [dumL_len] using this
theorem sum_le : ∀ (A B : List Nat), A.length = B.length → (∀ i, A.getD i 0 ≤ B.getD i 0) → A.sum ≤ B.sum
  | [], [], _, _ => Nat.le_refl _
  | a :: A, b :: B, hl, h => by
    have h0 := h 0
    have := sum_le A B (by simpa using hl) fun i => h (i + 1)
    simp only [List.getD_cons_zero] at h0
    simp only [List.sum_cons]
    omega
  | [], _ :: _, hl, _ => by simp at hl
  | _ :: _, [], hl, _ => by simp at hl
theorem sum_lt : ∀ (A B : List Nat), A.length = B.length → (∀ i, A.getD i 0 ≤ B.getD i 0) → (∃ i, A.getD i 0 < B.getD i 0) → A.sum < B.sum
  | [], [], _, _, ⟨i, hi⟩ => by simp at hi
  | a :: A, b :: B, hl, h, ⟨i, hi⟩ => by
    have h0 := h 0
    simp only [List.getD_cons_zero] at h0
    simp only [List.sum_cons]
    match i, hi with
    | 0, hi =>
      simp only [List.getD_cons_zero] at hi
      have := sum_le A B (by simpa using hl) fun i => h (i + 1)
      omega
    | i + 1, hi =>
      have := sum_lt A B (by simpa using hl) (fun i => h (i + 1)) ⟨i, hi⟩
      omega
  | [], _ :: _, hl, _, _ => by simp at hl
  | _ :: _, [], hl, _, _ => by simp at hl
theorem mu_get (c : Nat) (L : List (List Int)) (i : Nat) : (L.map fun r => (cl r c).natAbs).getD i 0 = mg L c i := by
  rw [List.getD_eq_getElem?_getD, List.getElem?_map]
  by_cases h : i < L.length
  · rw [List.getElem?_eq_getElem h]; unfold mg; rw [rw_mem h]; rfl
  · rw [List.getElem?_eq_none (by omega), mg_out (by omega)]; rfl
theorem mu_rnd {n : Nat} {rows : List (List Int)} (h : Rect n rows) {c j : Nat} (hc : c < n) (hb : ∀ i, mg rows c i ≤ 4000000000000000000) (hj : mg rows c j ≠ 0) : muC c (rnd rows c j) ≤ muC c rows ∧ ((∀ i, i < rows.length → mg rows c i ≠ 0 → mg rows c j ≤ mg rows c i) → moreF rows c j rows.length = true → muC c (rnd rows c j) < muC c rows) := by
  have hle : ∀ i, mg (rnd rows c j) c i ≤ mg rows c i := fun i => by
    rw [rnd_mg h hc hb hj i]
    split
    · rename_i e; rw [e]; exact Nat.le_refl _
    · exact Nat.mod_le _ _
  refine ⟨sum_le _ _ (by simp [rnd_len]) fun i => by rw [mu_get, mu_get]; exact hle i, fun hmin hm => sum_lt _ _ (by simp [rnd_len]) (fun i => by rw [mu_get, mu_get]; exact hle i) ?_⟩
  obtain ⟨i, hi, hne⟩ := (more_spec h hc).1 hm
  refine ⟨i, ?_⟩
  rw [mu_get, mu_get]
  have hv := rnd_mg h hc hb hj i
  rw [if_neg hi] at hv
  have h0 : mg rows c i ≠ 0 := fun e => hne (by rw [hv, e, Nat.zero_mod])
  have hil : i < rows.length := Nat.lt_of_not_le fun hl => h0 (mg_out hl)
  have h1 := hmin i hil h0
  have h2 := Nat.mod_lt (mg rows c i) (Nat.pos_of_ne_zero hj)
  rw [hv]
  omega
/-- Two lists of rows, apart. -/
structure HH (lo : Nat) (w : World) (v1 : Value) (h1 : List Value) (L1 : List (List Int)) (v2 : Value) (h2 : List Value) (L2 : List (List Int)) : Prop where
  a : HB lo w v1 h1 L1
  b : HB lo w v2 h2 L2
  ap : ∀ x ∈ bl v1 h1, x ∉ bl v2 h2
theorem HH.drewN {lo : Nat} {w : World} {v1 v2 : Value} {h1 h2 : List Value} {L1 L2 : List (List Int)} (h : HH lo w v1 h1 L1 v2 h2 L2) (n : Nat) : HH lo (w.drewN n) v1 h1 L1 v2 h2 L2 :=
  ⟨⟨h.a.row, h.a.len, h.a.own, h.a.nd, h.a.rg⟩, ⟨h.b.row, h.b.len, h.b.own, h.b.nd, h.b.rg⟩, h.ap⟩
theorem HH.below {lo : Nat} {w w' : World} {v1 v2 : Value} {h1 h2 : List Value} {L1 L2 : List (List Int)} (h : HH lo w v1 h1 L1 v2 h2 L2) (hb : Below w.heap.size w w') : HH lo w' v1 h1 L1 v2 h2 L2 := ⟨h.a.below hb, h.b.below hb, h.ap⟩
theorem HH.setC1 {lo : Nat} {w w' : World} {v1 v2 : Value} {h1 h2 : List Value} {L1 L2 : List (List Int)} (h : HH lo w v1 h1 L1 v2 h2 L2) {i : Nat} (hi : i < L1.length) {r : List Int} (hg : w.grownBy w' (hd h1 i).ownBlock) (ho : OwI w' 0 (hd h1 i) r) : HH lo w' v1 h1 (L1.set i r) v2 h2 L2 :=
  ⟨h.a.setC hi hg ho, h.b.grown hg fun b hb => h.ap b (bl_hd (by rw [h.a.len]; exact hi) hb), h.ap⟩
theorem HH.setC2 {lo : Nat} {w w' : World} {v1 v2 : Value} {h1 h2 : List Value} {L1 L2 : List (List Int)} (h : HH lo w v1 h1 L1 v2 h2 L2) {i : Nat} (hi : i < L2.length) {r : List Int} (hg : w.grownBy w' (hd h2 i).ownBlock) (ho : OwI w' 0 (hd h2 i) r) : HH lo w' v1 h1 L1 v2 h2 (L2.set i r) :=
  ⟨h.a.grown hg fun b hb hm => h.ap b hm (bl_hd (by rw [h.b.len]; exact hi) hb), h.b.setC hi hg ho, h.ap⟩
theorem numOk_wide {L : List (List Int)} (h : numOk 100 L = true) : numOk 1000000000 L = true := by
  unfold numOk
  rw [List.all_eq_true]
  intro r hr
  rw [List.all_eq_true]
  intro x hx
  have := num_mem h hr hx
  exact inB_iff.2 (by omega)
theorem rowsOk_wide {n : Int} {L : List (List Int)} (h : rowsOk n 1000000000 L = false) : rowsOk n 100 L = false := by
  rcases e : rowsOk n 100 L with _ | _
  · rfl
  · rw [rowsOk_eq, Bool.and_eq_true] at e
    have h2 : numOk 1000000000 L = true := numOk_wide e.2
    rw [rowsOk_eq, e.1, h2] at h
    cases h
def boolOf : Value → Nat
  | .bool true => 1
  | _ => 0

theorem colI_len (c : Nat) : ∀ f rows, (colI c f rows).2.length = rows.length := by
  intro f
  induction f with
  | zero => intro rows; rfl
  | succ f ih =>
    intro rows
    rw [colI_succ]
    split
    · rfl
    · split
      · rw [ih, rnd_len]
      · exact rnd_len _ _ _
theorem hermS_len (L : List (List Int)) (k : Nat) : (hermS L k).1.length ≤ L.length ∧ (hermS L k).2.length ≤ k := by
  induction k with
  | zero => exact ⟨Nat.le_refl _, Nat.le_refl _⟩
  | succ k ih =>
    rw [hermS_succ]
    have h1 := colI_len k 200 (hermS L k).1
    unfold phF
    split
    · exact ⟨by rw [h1]; exact ih.1, Nat.le_succ_of_le ih.2⟩
    · refine ⟨?_, by simp; exact ih.2⟩
      have h2 := List.length_eraseIdx_le (colI k 200 (hermS L k).1).2 (colI k 200 (hermS L k).1).1.toNat
      simp only
      omega
theorem rnd_next (rows : List (List Int)) (c j k : Nat) (hk : k < rows.length) : rndF rows c j (k + 1) = if hitR rows c j k = true then (rndF rows c j k).set k (newR rows c j k) else rndF rows c j k := by
  obtain ⟨_, h2⟩ := rndF_get rows c j k (by omega)
  rw [rndF_succ]
  have hj : rw_ (rndF rows c j k) j = rw_ rows j := by rw [h2, if_neg (fun h => by simp [hitR] at h)]
  have hk' : rw_ (rndF rows c j k) k = rw_ rows k := by rw [h2, if_neg (by omega)]
  have hh : hitR (rndF rows c j k) c j k = hitR rows c j k := by unfold hitR; rw [hk']
  have hn : newR (rndF rows c j k) c j k = newR rows c j k := by unfold newR; rw [hk', hj]
  unfold rndS
  rw [hh, hn]
theorem rnd_rows {rows : List (List Int)} {c j k : Nat} (hk : k ≤ rows.length) : (rndF rows c j k).length = rows.length ∧ rw_ (rndF rows c j k) j = rw_ rows j ∧ rw_ (rndF rows c j k) k = rw_ rows k := by
  obtain ⟨h1, h2⟩ := rndF_get rows c j k hk
  exact ⟨h1, by rw [h2, if_neg (fun h => by simp [hitR] at h)], by rw [h2, if_neg (by omega)]⟩
theorem HB.own2 {lo : Nat} {w : World} {g n cap k N : Nat} {hs : List Value} {L : List (List Int)} (h : HB lo w (.slice (some ⟨g, 0, none⟩) n cap) hs L) (hk : k < L.length) {gk ck : Nat} (hv : hd hs k = .slice (some ⟨gk, 0, none⟩) N ck) : OwI w 0 (.slice (some ⟨gk, 0, none⟩) N ck) (rw_ L k) := by
  rw [← hv]; exact h.own k hk
theorem own_one {w : World} {v : Value} {xs : List Int} (h : OwI w 0 v xs) : v.oneCell' = true := by
  obtain ⟨A, cap, rfl, _⟩ := OwI.form h
  rfl
theorem HB.ones {lo : Nat} {w : World} {v : Value} {hs : List Value} {L : List (List Int)} (h : HB lo w v hs L) : ∀ u ∈ hs, u.oneCell' = true := fun u hu => by
  obtain ⟨i, hi, rfl⟩ := List.mem_iff_getElem.1 hu
  have := h.own i (by rw [← h.len]; exact hi)
  rw [hd_mem hi] at this
  exact own_one this
theorem neg_step (fr : List Int) (k : Nat) (h : k < fr.length) : ((fr.take k).map negW ++ fr.drop k).set k (negW fr[k]) = (fr.take (k + 1)).map negW ++ fr.drop (k + 1) := by
  rw [List.set_append_right _ _ (by rw [List.length_map, List.length_take]; omega), List.length_map, List.length_take, Nat.min_eq_left (by omega), Nat.sub_self, List.drop_eq_getElem_cons h, List.set_cons_zero, List.take_succ_eq_append_getElem h, List.map_append, List.append_assoc]
  rfl
theorem neg_at (fr : List Int) (k : Nat) (h : k < fr.length) (h' : k < ((fr.take k).map negW ++ fr.drop k).length) : ((fr.take k).map negW ++ fr.drop k)[k] = fr[k] := by
  have hl : ((fr.take k).map negW).length = k := by rw [List.length_map, List.length_take]; omega
  rw [List.getElem_append_right (by omega), List.getElem_drop]
  congr 1
  omega
theorem red_step (L : List (List Int)) (g : List Int → List Int) (k : Nat) (h : k < L.length) : ((L.take k).map g ++ L.drop k).set k (g (rw_ L k)) = (L.take (k + 1)).map g ++ L.drop (k + 1) := by
  rw [rw_mem h, List.set_append_right _ _ (by rw [List.length_map, List.length_take]; omega), List.length_map, List.length_take, Nat.min_eq_left (by omega), Nat.sub_self, List.drop_eq_getElem_cons h, List.set_cons_zero, List.take_succ_eq_append_getElem h, List.map_append, List.append_assoc]
  rfl
theorem red_at (L : List (List Int)) (g : List Int → List Int) (k : Nat) (h : k < L.length) : rw_ ((L.take k).map g ++ L.drop k) k = rw_ L k ∧ ((L.take k).map g ++ L.drop k).length = L.length := by
  have hl : ((L.take k).map g).length = k := by rw [List.length_map, List.length_take]; omega
  refine ⟨?_, by simp; omega⟩
  unfold rw_
  rw [List.getD_eq_getElem?_getD, List.getD_eq_getElem?_getD, List.getElem?_append_right (by omega), hl, Nat.sub_self, List.getElem?_drop, Nat.add_zero]
/-- Where a row's number lies. -/
theorem HB.num {lo : Nat} {w : World} {g n cap k c N : Nat} {hs : List Value} {L : List (List Int)} (h : HB lo w (.slice (some ⟨g, 0, none⟩) n cap) hs L) (hk : k < L.length) (hN : (rw_ L k).length = N) (hc : c < N) :
    ∃ gk ck, w.cell? ⟨g, k, none⟩ = some (.slice (some ⟨gk, 0, none⟩) N ck) ∧ hd hs k = .slice (some ⟨gk, 0, none⟩) N ck ∧ w.cell? ⟨gk, c, none⟩ = some (.int .i64 (cl (rw_ L k) c)) ∧ lo ≤ gk ∧ gk < w.heap.size ∧ N ≤ ck ∧ ck ≤ maxLen ∧ I64 (cl (rw_ L k) c) := by
  obtain ⟨h1, h2⟩ := h.at hk
  obtain ⟨gk, ck, hv, b1, b2, b3, b4⟩ := h.row_form hk (by omega)
  rw [hN] at hv b3
  rw [hv] at h1 h2
  refine ⟨gk, ck, h1, hv, ?_, b1, b2, b3, b4, ?_⟩
  · rw [OwI.cellAt h2 c (by omega), cl_get (by omega)]
  · rw [cl_get (by omega)]; exact h2.2 _ (by simp)
end Go.Proofs.Ytjmjhhdjlompfaa
