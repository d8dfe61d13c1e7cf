/- FnLattices in plain Lean, 1: integer combinations of rows; the steps of the Hermite form keep them. -/
import Derived.Test.YtjmjhhdjlompfaaHerG0
namespace Go.Proofs.Ytjmjhhdjlompfaa
set_option maxRecDepth 20000
set_option linter.unusedVariables false
set_option linter.unusedSimpArgs false
open Go.RowKit

/-! ## Combinations -/
inductive Sp (S : List (List Int)) : (Nat → Int) → Prop
  | zero : Sp S fun _ => 0
  | add {v : Nat → Int} {r : List Int} (q : Int) (h : Sp S v) (hr : r ∈ S) : Sp S fun t => v t + q * cl r t
theorem Sp.cast {S : List (List Int)} {u v : Nat → Int} (h : Sp S u) (e : ∀ t, u t = v t) : Sp S v := by
  have : u = v := funext e
  exact this ▸ h
theorem Sp.mem {S : List (List Int)} {r : List Int} (h : r ∈ S) : Sp S (cl r) := (Sp.zero.add 1 h).cast fun t => by (try dsimp only); omega
theorem Sp.plus {S : List (List Int)} {u v : Nat → Int} (hu : Sp S u) (hv : Sp S v) : Sp S fun t => u t + v t := by
  induction hv with
  | zero => exact hu.cast fun t => by (try dsimp only); omega
  | add q _ hr ih => exact (ih.add q hr).cast fun t => by (try dsimp only); omega
theorem Sp.mul {S : List (List Int)} {v : Nat → Int} (hv : Sp S v) (c : Int) : Sp S fun t => c * v t := by
  induction hv with
  | zero => exact Sp.zero.cast fun t => by (try dsimp only); omega
  | add q _ hr ih => exact (ih.add (c * q) hr).cast fun t => by (try dsimp only); rw [Int.mul_add, Int.mul_assoc]
theorem Sp.trans {S S' : List (List Int)} (h : ∀ r ∈ S, Sp S' (cl r)) {v : Nat → Int} (hv : Sp S v) : Sp S' v := by
  induction hv with
  | zero => exact .zero
  | add q _ hr ih => exact (ih.plus ((h _ hr).mul q)).cast fun t => rfl
theorem Sp.mono {S S' : List (List Int)} (h : ∀ r ∈ S, r ∈ S') {v : Nat → Int} (hv : Sp S v) : Sp S' v := hv.trans fun r hr => .mem (h r hr)
/-- The same combinations. -/
def Eqv (A B : List (List Int)) : Prop := (∀ r ∈ A, Sp B (cl r)) ∧ ∀ r ∈ B, Sp A (cl r)
theorem Eqv.refl (A : List (List Int)) : Eqv A A := ⟨fun _ h => .mem h, fun _ h => .mem h⟩
theorem Eqv.trans {A B C : List (List Int)} (h : Eqv A B) (h' : Eqv B C) : Eqv A C := ⟨fun r hr => (h.1 r hr).trans h'.1, fun r hr => (h'.2 r hr).trans h.2⟩
theorem Eqv.app {A B : List (List Int)} (h : Eqv A B) (D : List (List Int)) : Eqv (A ++ D) (B ++ D) := by
  constructor
  · intro r hr
    rcases List.mem_append.1 hr with hr | hr
    · exact (h.1 r hr).mono fun x hx => List.mem_append_left _ hx
    · exact .mem (List.mem_append_right _ hr)
  · intro r hr
    rcases List.mem_append.1 hr with hr | hr
    · exact (h.2 r hr).mono fun x hx => List.mem_append_left _ hx
    · exact .mem (List.mem_append_right _ hr)

/-! ## A round -/
theorem wS_eq {y q z : Int} (h : y.natAbs + q.natAbs * z.natAbs ≤ 4000000000000000000) : wS y q z = y - q * z := by
  unfold wS
  have h1 : (q * z).natAbs = q.natAbs * z.natAbs := Int.natAbs_mul q z
  generalize q.natAbs * z.natAbs = m at *
  generalize q * z = u at *
  rw [IntWalk.wrap64_in u ⟨by omega, by omega⟩, IntWalk.wrap64_in _ ⟨by omega, by omega⟩]
theorem subR_eq {r b : List Int} {q : Int} (hl : b.length ≤ r.length) (h : ∀ t, (cl r t).natAbs + q.natAbs * (cl b t).natAbs ≤ 4000000000000000000) (t : Nat) : cl (subR r q b) t = cl r t - q * cl b t := by
  by_cases ht : t < r.length
  · rw [subR_cl _ _ _ _ ht, wS_eq (h t)]
  · rw [cl_out (by rw [subR_len]; omega), cl_out (by omega), cl_out (show b.length ≤ t by omega)]; omega
/-- No number wraps in this round. -/
def NW (rows : List (List Int)) (c j : Nat) : Prop := ∀ i, hitR rows c j i = true → ∀ t, (cl (rw_ rows i) t).natAbs + (quoW (cl (rw_ rows i) c) (cl (rw_ rows j) c)).natAbs * (cl (rw_ rows j) t).natAbs ≤ 4000000000000000000
theorem rw_in {rows : List (List Int)} {r : List Int} (h : r ∈ rows) : ∃ i, i < rows.length ∧ rw_ rows i = r := by
  obtain ⟨i, hi, rfl⟩ := List.mem_iff_getElem.1 h
  exact ⟨i, hi, rw_mem hi⟩
theorem in_rw {rows : List (List Int)} {i : Nat} (h : i < rows.length) : rw_ rows i ∈ rows := by rw [rw_mem h]; exact List.getElem_mem h
theorem rnd_eqv {n : Nat} {rows : List (List Int)} (hr : Rect n rows) {c j : Nat} (hj : j < rows.length) (h : NW rows c j) : Eqv rows (rnd rows c j) := by
  have hjj : rw_ (rnd rows c j) j = rw_ rows j := by
    rw [rnd_get, if_neg]
    unfold hitR
    simp
  have key : ∀ i, i < rows.length → hitR rows c j i = true → ∀ t, cl (newR rows c j i) t = cl (rw_ rows i) t - quoW (cl (rw_ rows i) c) (cl (rw_ rows j) c) * cl (rw_ rows j) t := fun i hi hh t => by
    unfold newR
    exact subR_eq (by rw [hr i hi, hr j hj]; exact Nat.le_refl _) (h i hh) t
  constructor
  · intro r hm
    obtain ⟨i, hi, rfl⟩ := rw_in hm
    by_cases hh : hitR rows c j i = true
    · have h1 : Sp (rnd rows c j) (cl (newR rows c j i)) := by
        have := rnd_get rows c j i
        rw [if_pos hh] at this
        rw [← this]
        exact .mem (in_rw (by rw [rnd_len]; exact hi))
      have h2 : rw_ rows j ∈ rnd rows c j := by rw [← hjj]; exact in_rw (by rw [rnd_len]; exact hj)
      exact (h1.add (quoW (cl (rw_ rows i) c) (cl (rw_ rows j) c)) h2).cast fun t => by (try dsimp only); rw [key i hi hh t]; omega
    · have := rnd_get rows c j i
      rw [if_neg hh] at this
      rw [← this]
      exact .mem (in_rw (by rw [rnd_len]; exact hi))
  · intro r hm
    obtain ⟨i, hi, rfl⟩ := rw_in hm
    rw [rnd_len] at hi
    rw [rnd_get]
    by_cases hh : hitR rows c j i = true
    · rw [if_pos hh]
      exact ((Sp.mem (in_rw hi)).add (-quoW (cl (rw_ rows i) c) (cl (rw_ rows j) c)) (in_rw hj)).cast fun t => by
        try dsimp only
        rw [key i hi hh t, Int.neg_mul]; omega
    · rw [if_neg hh]; exact .mem (in_rw hi)
/-! ## A column's rounds -/
theorem quo_le {a b : Int} (hb : b ≠ 0) (h : a.natAbs ≤ 4000000000000000000) : (quoW a b).natAbs ≤ a.natAbs / b.natAbs := by
  rw [quoW_abs h, Int.natAbs_tdiv]
  exact Nat.le_refl _
/-- What keeps a column's rounds free of wraps. -/
def Safe (n c : Nat) (rows : List (List Int)) : Prop := (∀ i, mg rows c i ≤ 1000000000000000000) ∧
  ((∀ t, t < n → t ≠ c → ∀ i, mg rows t i = 0) ∨ ∃ a M, 2 ≤ a ∧ a ≤ 4000000000000000000 ∧ (∀ i, mg rows c i ≤ a) ∧ (∀ t, t < n → ∀ i, mg rows t i ≤ M) ∧ (0 ≤ pickF rows c rows.length → M * gX a (mg rows c (pickF rows c rows.length).toNat) ≤ 4000000000000000000))
theorem safe_nw {n c : Nat} (hc : c < n) {rows : List (List Int)} (hr : Rect n rows) (h : Safe n c rows) (hp : 0 ≤ pickF rows c rows.length) : NW rows c (pickF rows c rows.length).toNat := by
  have hb : ∀ i, mg rows c i ≤ 4000000000000000000 := fun i => Nat.le_trans (h.1 i) (by decide)
  rcases pick_spec hb rows.length with ⟨h1, _⟩ | ⟨h1, h2, h3, h4⟩
  · omega
  intro i hh t
  have hil := hit_lt hh
  have hq := quo_le (a := cl (rw_ rows i) c) (b := cl (rw_ rows (pickF rows c rows.length).toNat) c) (fun e => h3 (mg_zero.2 e)) (hb i)
  by_cases ht : t < n
  · rcases h.2 with hz | ⟨a, M, ha, ha', hca, hM, hbig⟩
    · by_cases e : t = c
      · subst e
        have hd := Nat.div_mul_le_self (mg rows t i) (mg rows t (pickF rows t rows.length).toNat)
        have h5 := Nat.mul_le_mul_right (mg rows t (pickF rows t rows.length).toNat) hq
        have h6 := h.1 i
        unfold mg at hd h5 h6
        omega
      · have z1 := hz t ht e i
        have z2 := hz t ht e (pickF rows c rows.length).toNat
        unfold mg at z1 z2
        rw [z1, z2]
        simp
    · have h5 := gX_one ha (Nat.pos_of_ne_zero h3) (hca _)
      have h6 := Nat.le_trans (Nat.mul_le_mul_left M h5) (hbig hp)
      have h7 : (quoW (cl (rw_ rows i) c) (cl (rw_ rows (pickF rows c rows.length).toNat) c)).natAbs ≤ a / mg rows c (pickF rows c rows.length).toNat := Nat.le_trans hq (Nat.div_le_div_right (hca i))
      have h8 := Nat.mul_le_mul h7 (hM t ht (pickF rows c rows.length).toNat)
      have h9 := hM t ht i
      rw [Nat.mul_add, Nat.mul_one, Nat.mul_comm M] at h6
      unfold mg at *
      omega
  · rw [cl_out (by rw [hr i hil]; omega), cl_out (show (rw_ rows (pickF rows c rows.length).toNat).length ≤ t by rw [hr _ (by omega)]; omega)]
    simp
theorem safe_next {n c : Nat} (hc : c < n) {rows : List (List Int)} (hr : Rect n rows) (h : Safe n c rows) (hp : 0 ≤ pickF rows c rows.length) (hm : moreF rows c (pickF rows c rows.length).toNat rows.length = true) : Safe n c (rnd rows c (pickF rows c rows.length).toNat) := by
  have hb : ∀ i, mg rows c i ≤ 4000000000000000000 := fun i => Nat.le_trans (h.1 i) (by decide)
  rcases pick_spec hb rows.length with ⟨h1, _⟩ | ⟨h1, h2, h3, h4⟩
  · omega
  have hmg := rnd_mg hr hc hb h3
  have hb1 := rnd_bd hr hc hb h3
  have hle : ∀ i, mg (rnd rows c (pickF rows c rows.length).toNat) c i ≤ mg rows c (pickF rows c rows.length).toNat := fun i => by
    rw [hmg i]
    split
    · exact Nat.le_refl _
    · exact Nat.le_of_lt (Nat.mod_lt _ (Nat.pos_of_ne_zero h3))
  refine ⟨fun i => Nat.le_trans (hle i) (h.1 _), ?_⟩
  rcases h.2 with hz | ⟨a, M, ha, ha', hca, hM, hbig⟩
  · left
    intro t ht e i
    unfold mg
    rw [rnd_get]
    have z1 := mg_zero.1 (hz t ht e i)
    split
    · unfold newR
      by_cases hl : t < (rw_ rows i).length
      · rw [subR_cl _ _ _ _ hl, mg_zero.1 (hz t ht e (pickF rows c rows.length).toNat), z1, wS_zero ⟨by decide, by decide⟩]; rfl
      · rw [cl_out (by rw [subR_len]; omega)]; rfl
    · rw [z1]; rfl
  · right
    have h5 := gX_one ha (Nat.pos_of_ne_zero h3) (hca (pickF rows c rows.length).toNat)
    have h6 := Nat.mul_le_mul_left M h5
    have hbig' := hbig hp
    have hg : ∀ t, t < n → ∀ i, mg (rnd rows c (pickF rows c rows.length).toNat) t i ≤ M * (1 + a / mg rows c (pickF rows c rows.length).toNat) := fun t ht => rnd_grow hr ht hb h3 hca (hM t ht) (Nat.le_trans h6 hbig')
    obtain ⟨i1, hi1, hm1⟩ := (more_spec hr hc).1 hm
    have hi1l : i1 < (rnd rows c (pickF rows c rows.length).toNat).length := Nat.lt_of_not_le fun h => hm1 (mg_out h)
    generalize hJ : (pickF rows c rows.length).toNat = j at *
    have hmj : mg rows c j ≠ 0 := h3
    refine ⟨mg rows c j, M * (1 + a / mg rows c j), ?_, hb j, hle, hg, fun g1 => ?_⟩
    · have hv := hmg i1
      rw [if_neg hi1] at hv
      have hlt : mg (rnd rows c j) c i1 < mg rows c j := by rw [hv]; exact Nat.mod_lt _ (Nat.pos_of_ne_zero h3)
      omega
    · rcases pick_spec hb1 (rnd rows c j).length with ⟨g1', g0⟩ | ⟨g1', g2, g3, g4⟩
      · omega
      have hd := g4 i1 hi1l hm1
      have hv := hmg i1
      rw [if_neg hi1] at hv
      have hlt : mg (rnd rows c j) c i1 < mg rows c j := by rw [hv]; exact Nat.mod_lt _ (Nat.pos_of_ne_zero h3)
      have hnear : a < 2 * mg rows c j → mg (rnd rows c j) c i1 ≤ a - mg rows c j := fun hlt2 => by
        rw [hv]
        have hm0 : mg rows c i1 ≠ 0 := fun e => hm1 (by rw [hv, e, Nat.zero_mod])
        have hil : i1 < rows.length := by rw [rnd_len] at hi1l; exact hi1l
        have q1 := h4 i1 hil hm0
        have q2 := hca i1
        rw [Nat.mod_eq_sub_mod q1, Nat.mod_eq_of_lt (by omega)]
        omega
      have hst := gX_step (a := a) (b := mg rows c j) (d := mg (rnd rows c j) c (pickF (rnd rows c j) c (rnd rows c j).length).toNat) (by omega) (by omega) (hca j) (fun h => by have := hnear h; omega)
      have hst2 := Nat.mul_le_mul_left M hst
      rw [← Nat.mul_assoc] at hst2
      exact Nat.le_trans hst2 hbig'
theorem col_eqv {n c : Nat} (hc : c < n) : ∀ f rows, Rect n rows → Safe n c rows → Eqv rows (colI c f rows).2 := by
  intro f
  induction f with
  | zero => intro rows _ _; exact Eqv.refl _
  | succ f ih =>
    intro rows hr h
    rw [colI_succ]
    by_cases hp : pickF rows c rows.length < 0
    · rw [if_pos hp]; exact Eqv.refl _
    · rw [if_neg hp]
      have hlt : (pickF rows c rows.length).toNat < rows.length := by
        rcases pickF_range rows c rows.length with h1 | h1 <;> omega
      have h1 := rnd_eqv hr hlt (safe_nw hc hr h (by omega))
      split
      · rename_i hm
        exact h1.trans (ih _ (rnd_rect hr c _) (safe_next hc hr h (by omega) hm))
      · exact h1
end Go.Proofs.Ytjmjhhdjlompfaa
