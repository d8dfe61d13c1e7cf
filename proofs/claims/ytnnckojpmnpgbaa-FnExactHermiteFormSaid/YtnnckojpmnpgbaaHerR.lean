/- Plain: the Hermite form: the phases, the rows' shape, what lies in the lattice. -/
import Derived.Test.YtnnckojpmnpgbaaHerQ
import Derived.Test.YtnnckojpmnpgbaaBase
namespace Go.Proofs.Ytnnckojpmnpgbaa
set_option maxRecDepth 20000
set_option linter.unusedVariables false
set_option linter.unusedSimpArgs false
open Go.RowKit

def negW (x : Int) : Int := wrap64 (-x)
def floorW (a b : Int) : Int := if Int.tmod a b < 0 then wrap64 (quoW a b - 1) else quoW a b
def fixR (c : Nat) (r : List Int) : List Int := if cl r c < 0 then r.map negW else r
def redR (c : Nat) (f d : List Int) : List Int := subR d (floorW (cl d c) (cl f c)) f
/-- One column's phase: what is left, what is done. -/
def phF (c : Nat) (s : List (List Int) × List (List Int)) : List (List Int) × List (List Int) :=
  if (colI c 200 s.1).1 < 0 then ((colI c 200 s.1).2, s.2)
  else ((colI c 200 s.1).2.eraseIdx (colI c 200 s.1).1.toNat, s.2.map (redR c (fixR c (rw_ (colI c 200 s.1).2 (colI c 200 s.1).1.toNat))) ++ [fixR c (rw_ (colI c 200 s.1).2 (colI c 200 s.1).1.toNat)])
def hermS (rows : List (List Int)) (k : Nat) : List (List Int) × List (List Int) := (List.range k).foldl (fun s c => phF c s) (rows, [])
theorem hermS_succ (rows : List (List Int)) (k : Nat) : hermS rows (k + 1) = phF k (hermS rows k) := by
  unfold hermS
  rw [List.range_succ, List.foldl_append]
  rfl
def B64 (rows : List (List Int)) : Prop := ∀ i t, I64 (cl (rw_ rows i) t)
theorem wS_64 (y q z : Int) : I64 (wS y q z) := by
  unfold wS
  exact I64_wrap0 _
theorem cl_out {r : List Int} {t : Nat} (h : r.length ≤ t) : cl r t = 0 := by
  unfold cl
  rw [List.getD_eq_getElem?_getD, List.getElem?_eq_none h]; rfl
theorem subR_64 (r : List Int) (q : Int) (b : List Int) (t : Nat) : I64 (cl (subR r q b) t) := by
  by_cases h : t < r.length
  · rw [subR_cl _ _ _ _ h]; exact wS_64 _ _ _
  · rw [cl_out (by rw [subR_len]; omega)]; exact ⟨by decide, by decide⟩
/-- The place of a row's first number other than 0; its length if there is none. -/
def pivF : List Int → Nat
  | [] => 0
  | x :: r => if x ≠ 0 then 0 else pivF r + 1
theorem piv_le : ∀ r : List Int, pivF r ≤ r.length
  | [] => Nat.le_refl _
  | x :: r => by
    unfold pivF
    have := piv_le r
    split
    · exact Nat.zero_le _
    · simp only [List.length_cons]; omega
theorem cl_cons (x : Int) (r : List Int) (t : Nat) : cl (x :: r) (t + 1) = cl r t := rfl
theorem piv_at : ∀ r : List Int, pivF r < r.length → cl r (pivF r) ≠ 0
  | [], h => by cases h
  | x :: r, h => by
    unfold pivF at h ⊢
    split
    · rename_i hx; exact hx
    · rename_i hx
      rw [if_neg hx] at h
      rw [cl_cons]
      exact piv_at r (by simpa using h)
theorem piv_zero : ∀ (r : List Int) (t : Nat), t < pivF r → cl r t = 0
  | [], t, h => by cases h
  | x :: r, t, h => by
    unfold pivF at h
    split at h
    · cases h
    · rename_i hx
      match t with
      | 0 => exact Decidable.not_not.1 hx
      | t + 1 => rw [cl_cons]; exact piv_zero r t (by omega)
theorem piv_eq {r : List Int} {p : Nat} (h0 : ∀ t, t < p → cl r t = 0) (h : cl r p ≠ 0) : pivF r = p := by
  have hp : p < r.length := Nat.lt_of_not_le fun hl => h (cl_out hl)
  rcases Nat.lt_trichotomy (pivF r) p with h1 | h1 | h1
  · exact absurd (h0 _ h1) (piv_at r (by omega))
  · exact h1
  · exact absurd (piv_zero r p h1) h
theorem wS_zero {y q : Int} (hy : I64 y) : wS y q 0 = y := by
  unfold wS
  rw [Int.mul_zero, IntWalk.wrap64_in 0 ⟨by omega, by omega⟩, Int.sub_zero]
  exact IntWalk.wrap64_in _ hy
def bA : Nat → Nat
  | 0 => 100
  | 1 => 1000000
  | _ => 1000000000000000000
theorem bA_le (c : Nat) : 2 ≤ bA c ∧ bA c ≤ 1000000000000000000 := by
  unfold bA
  split <;> omega
theorem bA_step {c : Nat} (h : c ≤ 1) : bA c * (bA c * bA c) = bA (c + 1) := by
  have : c = 0 ∨ c = 1 := by omega
  rcases this with rfl | rfl <;> rfl
structure PhI (n c : Nat) (s : List (List Int) × List (List Int)) : Prop where
  rect : Rect n s.1
  zero : ∀ t, t < c → ∀ i, mg s.1 t i = 0
  bd : ∀ t, c ≤ t → t < n → ∀ i, mg s.1 t i ≤ bA c
  l64 : ∀ i t, I64 (cl (rw_ s.1 i) t)
  olen : ∀ d ∈ s.2, d.length = n
  o64 : ∀ d ∈ s.2, ∀ t, I64 (cl d t)
  opiv : ∀ d ∈ s.2, pivF d < c
  ech : s.2.Pairwise fun d e => pivF d < pivF e
theorem endI_le (c : Nat) {f g : Nat} (h : f ≤ g) {rows : List (List Int)} (he : endI c f rows = true) : endI c g rows = true := by
  induction h with
  | refl => exact he
  | step _ ih => exact (endI_mono c _ _ ih).1
theorem end200 {n c : Nat} (hc : c < n) {rows : List (List Int)} (hr : Rect n rows) (hb : ∀ i, mg rows c i ≤ bA c) : endI c 200 rows = true :=
  endI_le c (show 2 * 60 + 1 ≤ 200 by decide) (endI_pow hc 60 (by decide) rows hr fun i => by have := hb i; have := (bA_le c).2; omega)
theorem col_eq {n c : Nat} (hc : c < n) {rows : List (List Int)} (hr : Rect n rows) (hb : ∀ i, mg rows c i ≤ bA c) (b : Int) : colS c 10000 b rows = colI c 200 rows :=
  colS_eq hc 200 rows hr (fun i => by have := hb i; have := (bA_le c).2; omega) (end200 hc hr hb) 9799 b
theorem colI_64 {c : Nat} : ∀ f rows, (∀ i t, I64 (cl (rw_ rows i) t)) → ∀ i t, I64 (cl (rw_ (colI c f rows).2 i) t) := by
  intro f
  induction f with
  | zero => intro rows h; exact h
  | succ f ih =>
    intro rows h
    have h1 : ∀ j i t, I64 (cl (rw_ (rnd rows c j) i) t) := fun j i t => by
      rw [rnd_get]
      split
      · exact subR_64 _ _ _ _
      · exact h i t
    rw [colI_succ]
    split
    · exact h
    · split
      · exact ih _ (h1 _)
      · exact h1 _
theorem rw_erase (l : List (List Int)) (j i : Nat) : rw_ (l.eraseIdx j) i = rw_ l (if i < j then i else i + 1) := by
  unfold rw_
  rw [List.getD_eq_getElem?_getD, List.getD_eq_getElem?_getD, List.getElem?_eraseIdx]
  split <;> rfl
theorem fix_len (c : Nat) (r : List Int) : (fixR c r).length = r.length := by unfold fixR; split <;> simp
theorem neg_cl (r : List Int) (t : Nat) : cl (r.map negW) t = negW (cl r t) := by
  unfold cl
  rw [List.getD_eq_getElem?_getD, List.getD_eq_getElem?_getD, List.getElem?_map]
  cases r[t]? with
  | none => show (0 : Int) = negW 0; unfold negW; rw [Int.neg_zero, IntWalk.wrap64_in 0 ⟨by omega, by omega⟩]
  | some x => rfl
theorem negW_zero : negW 0 = 0 := by unfold negW; rw [Int.neg_zero, IntWalk.wrap64_in 0 ⟨by omega, by omega⟩]
theorem fix_zero {c : Nat} {r : List Int} {t : Nat} (h : cl r t = 0) : cl (fixR c r) t = 0 := by
  unfold fixR
  split
  · rw [neg_cl, h]; exact negW_zero
  · exact h
theorem fix_pos {c : Nat} {r : List Int} (h : cl r c ≠ 0) (hb : (cl r c).natAbs ≤ 4000000000000000000) : 0 < cl (fixR c r) c := by
  unfold fixR
  split
  · rw [neg_cl]; unfold negW; rw [IntWalk.wrap64_in _ ⟨by omega, by omega⟩]; omega
  · omega
theorem fix_64 {c : Nat} {r : List Int} (h : ∀ t, I64 (cl r t)) (t : Nat) : I64 (cl (fixR c r) t) := by
  unfold fixR
  split
  · rw [neg_cl]; exact I64_wrap0 _
  · exact h t
theorem redR_len (c : Nat) (f d : List Int) : (redR c f d).length = d.length := subR_len _ _ _
theorem redR_cl {c : Nat} {f d : List Int} {t : Nat} (h : cl f t = 0) (hd : I64 (cl d t)) : cl (redR c f d) t = cl d t := by
  by_cases ht : t < d.length
  · unfold redR
    rw [subR_cl _ _ _ _ ht, h, wS_zero hd]
  · rw [cl_out (by rw [redR_len]; omega), cl_out (by omega)]
theorem redR_piv {c : Nat} {f d : List Int} (hf : ∀ t, t < c → cl f t = 0) (hd : ∀ t, I64 (cl d t)) (hp : pivF d < c) (hl : pivF d < d.length) : pivF (redR c f d) = pivF d := by
  refine piv_eq (fun t ht => ?_) ?_
  · rw [redR_cl (hf t (by omega)) (hd t)]; exact piv_zero d t ht
  · rw [redR_cl (hf _ hp) (hd _)]; exact piv_at d hl
theorem phI_step {n c : Nat} (hn : n ≤ 3) (hc : c < n) {s : List (List Int) × List (List Int)} (h : PhI n c s) : PhI n (c + 1) (phF c s) ∧ ((colI c 200 s.1).1 < 0 ∨ (0 < cl (fixR c (rw_ (colI c 200 s.1).2 (colI c 200 s.1).1.toNat)) c ∧ (colI c 200 s.1).1.toNat < (colI c 200 s.1).2.length)) := by
  have hb0 := h.bd c (Nat.le_refl _) hc
  have hb : ∀ i, mg s.1 c i ≤ 4000000000000000000 := fun i => by have := hb0 i; have := (bA_le c).2; omega
  have he := end200 hc h.rect hb0
  obtain ⟨q1, q2, q3, q4⟩ := colI_spec hc 200 s.1 h.rect hb he
  have hz : ∀ t, t < c → ∀ i, mg (colI c 200 s.1).2 t i = 0 := fun t ht => colI_zero (by omega) 200 s.1 h.rect (h.zero t ht)
  have h64 := colI_64 (c := c) 200 s.1 h.l64
  have hbd : ∀ t, c + 1 ≤ t → t < n → ∀ i, mg (colI c 200 s.1).2 t i ≤ bA (c + 1) := fun t h1 h2 => by
    have hc1 : c ≤ 1 := by omega
    have := colI_sq hc h2 (f := 200) h.rect (bA_le c).1 hb0 (h.bd t (by omega) h2) (by rw [bA_step hc1]; have := (bA_le (c + 1)).2; omega) (by have := (bA_le c).2; omega)
    rw [bA_step hc1] at this
    exact this
  unfold phF
  generalize colI c 200 s.1 = R at *
  obtain ⟨P, rows⟩ := R
  simp only at *
  rcases q4 with ⟨e1, e2⟩ | ⟨e1, e2, e3, e4⟩
  · rw [if_pos (by omega)]
    refine ⟨⟨q2, fun t ht i => ?_, hbd, h64, h.olen, h.o64, fun d hd => Nat.lt_succ_of_lt (h.opiv d hd), h.ech⟩, .inl (by omega)⟩
    by_cases e : t = c
    · rw [e]; exact e2 i
    · exact hz t (by omega) i
  · rw [if_neg (by omega)]
    generalize P.toNat = j at *
    have hfz : ∀ t, t < c → cl (fixR c (rw_ rows j)) t = 0 := fun t ht => fix_zero (mg_zero.1 (hz t ht j))
    have hfp := fix_pos (c := c) (r := rw_ rows j) (fun e => e3 (mg_zero.2 e)) (q3 j)
    have hfpiv : pivF (fixR c (rw_ rows j)) = c := piv_eq hfz (by omega)
    have hjr : (rw_ rows j).length = n := q2 j (by omega)
    have hdp : ∀ d ∈ s.2, pivF (redR c (fixR c (rw_ rows j)) d) = pivF d := fun d hd => redR_piv hfz (h.o64 d hd) (h.opiv d hd) (by rw [h.olen d hd]; have := h.opiv d hd; omega)
    refine ⟨⟨fun i hi => ?_, fun t ht i => ?_, fun t h1 h2 i => ?_, fun i t => ?_, fun d hd => ?_, fun d hd t => ?_, fun d hd => ?_, ?_⟩, .inr ⟨hfp, by omega⟩⟩
    · simp only at hi ⊢
      rw [rw_erase]
      rw [List.length_eraseIdx, if_pos (by omega)] at hi
      split
      · exact q2 _ (by omega)
      · exact q2 _ (by omega)
    · unfold mg
      simp only
      rw [rw_erase]
      by_cases e : t = c
      · rw [e]
        refine e4 _ ?_
        split <;> omega
      · exact hz t (by omega) _
    · unfold mg
      simp only
      rw [rw_erase]
      exact hbd t h1 h2 _
    · simp only
      rw [rw_erase]
      exact h64 _ t
    · rcases List.mem_append.1 hd with hd | hd
      · obtain ⟨d0, hd0, rfl⟩ := List.mem_map.1 hd
        rw [redR_len]; exact h.olen d0 hd0
      · rw [List.mem_singleton.1 hd, fix_len]; exact hjr
    · rcases List.mem_append.1 hd with hd | hd
      · obtain ⟨d0, hd0, rfl⟩ := List.mem_map.1 hd
        exact subR_64 _ _ _ _
      · rw [List.mem_singleton.1 hd]; exact fix_64 (fun t => h64 j t) t
    · rcases List.mem_append.1 hd with hd | hd
      · obtain ⟨d0, hd0, rfl⟩ := List.mem_map.1 hd
        rw [hdp d0 hd0]; have := h.opiv d0 hd0; omega
      · rw [List.mem_singleton.1 hd, hfpiv]; omega
    · simp only
      refine List.pairwise_append.2 ⟨?_, List.pairwise_singleton _ _, fun d hd e he => ?_⟩
      · rw [List.pairwise_map]
        refine h.ech.imp_of_mem fun ha hb hab => ?_
        rw [hdp _ ha, hdp _ hb]; exact hab
      · obtain ⟨d0, hd0, rfl⟩ := List.mem_map.1 hd
        rw [List.mem_singleton.1 he, hfpiv, hdp d0 hd0]
        exact h.opiv d0 hd0
theorem hermS_inv {n : Nat} (hn : n ≤ 3) {rows : List (List Int)} (hr : Rect n rows) (hb : ∀ t, t < n → ∀ i, mg rows t i ≤ 100) : ∀ k, k ≤ n → PhI n k (hermS rows k) := by
  intro k
  induction k with
  | zero =>
    intro _
    refine ⟨hr, fun t ht => absurd ht (by omega), fun t _ ht => hb t ht, fun i t => ?_, fun d hd => (by cases hd), fun d hd => (by cases hd), fun d hd => (by cases hd), List.Pairwise.nil⟩
    show I64 (cl (rw_ rows i) t)
    by_cases hi : i < rows.length
    · by_cases ht : t < n
      · have := hb t ht i; unfold mg at this; exact ⟨by omega, by omega⟩
      · rw [cl_out (by rw [hr i hi]; omega)]; exact ⟨by decide, by decide⟩
    · have : rw_ rows i = [] := by unfold rw_; rw [List.getD_eq_getElem?_getD, List.getElem?_eq_none (by omega)]; rfl
      rw [this, cl_out (Nat.zero_le _)]; exact ⟨by decide, by decide⟩
  | succ k ih =>
    intro hk
    rw [hermS_succ]
    exact (phI_step hn (by omega) (ih (by omega))).1
end Go.Proofs.Ytnnckojpmnpgbaa
