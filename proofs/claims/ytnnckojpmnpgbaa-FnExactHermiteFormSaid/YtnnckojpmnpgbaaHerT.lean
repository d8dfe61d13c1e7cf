/- Plain: the Hermite form of accepted rows; membership and index. -/
import Derived.Test.YtnnckojpmnpgbaaHerR
namespace Go.Proofs.Ytnnckojpmnpgbaa
set_option maxRecDepth 20000
set_option linter.unusedVariables false
set_option linter.unusedSimpArgs false
open Go.RowKit

def lenOk (n : Int) (rows : List (List Int)) : Bool := rows.all fun r => decide ((r.length : Int) = n)
def numOk (m : Int) (rows : List (List Int)) : Bool := rows.all fun r => r.all fun x => inB x (-m) m
def rowOk (n m : Int) (r : List Int) : Bool := decide ((r.length : Int) = n) && r.all fun x => inB x (-m) m
def rowsOk (n m : Int) (rows : List (List Int)) : Bool := rows.all (rowOk n m)
theorem rowsOk_eq (n m : Int) (rows : List (List Int)) : rowsOk n m rows = (lenOk n rows && numOk m rows) := by
  unfold rowsOk lenOk numOk
  induction rows with
  | nil => rfl
  | cons r rows ih =>
    simp only [List.all_cons, ih, rowOk]
    cases decide ((r.length : Int) = n) <;> cases (r.all fun x => inB x (-m) m) <;> cases (rows.all fun r => decide ((r.length : Int) = n)) <;> rfl
/-- Row i has the form's properties. -/
def hOk (rows : List (List Int)) (i : Nat) : Bool :=
  decide (pivF (rw_ rows i) < (rw_ rows i).length) && decide (0 < cl (rw_ rows i) (pivF (rw_ rows i))) && (decide (i = 0) || decide (pivF (rw_ rows (i - 1)) < pivF (rw_ rows i))) &&
    (List.range i).all fun k => inB (cl (rw_ rows k) (pivF (rw_ rows i))) 0 (cl (rw_ rows i) (pivF (rw_ rows i)) - 1)
def isHerm (rows : List (List Int)) : Bool := (List.range rows.length).all (hOk rows)
/-- The program's form, and whether the rows are accepted. -/
def hermF (n : Int) (rows : List (List Int)) : List (List Int) × Bool :=
  if inB n 1 3 = false then ([], false)
  else if rowsOk n 1000000000 rows && isHerm rows then (rows, true)
  else if 100 < rows.length ∨ rowsOk n 100 rows = false then ([], false)
  else ((hermS rows n.toNat).2, true)
def rows27 (n : Int) (rows : List (List Int)) : Bool := inB n 1 3 && decide (rows.length ≤ 100) && lenOk n rows && (numOk 100 rows || (isHerm rows && numOk 1000000000 rows))
structure EchR (n : Nat) (l : List (List Int)) : Prop where
  len : ∀ d ∈ l, d.length = n
  i64 : ∀ d ∈ l, ∀ t, I64 (cl d t)
  piv : ∀ d ∈ l, pivF d < n
  ech : l.Pairwise fun d e => pivF d < pivF e
theorem pair_len {n : Nat} : ∀ (l : List (List Int)) (lo : Nat), (∀ d ∈ l, lo ≤ pivF d ∧ pivF d < n) → l.Pairwise (fun d e => pivF d < pivF e) → l.length + lo ≤ n ∨ l = []
  | [], _, _, _ => .inr rfl
  | d :: l, lo, h, hp => by
    have hd := h d (by simp)
    rw [List.pairwise_cons] at hp
    rcases pair_len l (pivF d + 1) (fun e he => ⟨hp.1 e he, (h e (by simp [he])).2⟩) hp.2 with h1 | h1
    · exact .inl (by simp only [List.length_cons]; omega)
    · exact .inl (by rw [h1]; simp only [List.length_cons, List.length_nil]; omega)
theorem EchR.length {n : Nat} {l : List (List Int)} (h : EchR n l) : l.length ≤ n := by
  rcases pair_len l 0 (fun d hd => ⟨Nat.zero_le _, h.piv d hd⟩) h.ech with h1 | h1
  · omega
  · rw [h1]; exact Nat.zero_le _
theorem rw_mem {rows : List (List Int)} {i : Nat} (h : i < rows.length) : rw_ rows i = rows[i] := by
  unfold rw_
  rw [List.getD_eq_getElem?_getD, List.getElem?_eq_getElem h]; rfl
theorem herm_at {rows : List (List Int)} (h : isHerm rows = true) {i : Nat} (hi : i < rows.length) : pivF (rw_ rows i) < (rw_ rows i).length ∧ 0 < cl (rw_ rows i) (pivF (rw_ rows i)) ∧ (i = 0 ∨ pivF (rw_ rows (i - 1)) < pivF (rw_ rows i)) := by
  unfold isHerm at h
  have := List.all_eq_true.1 h i (List.mem_range.2 hi)
  unfold hOk at this
  simp only [Bool.and_eq_true, decide_eq_true_eq, Bool.or_eq_true] at this
  exact ⟨this.1.1.1, this.1.1.2, this.1.2⟩
theorem len_mem {n : Int} {rows : List (List Int)} (h : lenOk n rows = true) {d : List Int} (hd : d ∈ rows) : (d.length : Int) = n := by
  unfold lenOk at h
  simpa using List.all_eq_true.1 h d hd
theorem num_mem {m : Int} {rows : List (List Int)} (h : numOk m rows = true) {d : List Int} (hd : d ∈ rows) {x : Int} (hx : x ∈ d) : -m ≤ x ∧ x ≤ m := by
  unfold numOk at h
  exact inB_iff.1 (List.all_eq_true.1 (List.all_eq_true.1 h d hd) x hx)
theorem cl_mem {d : List Int} {t : Nat} (h : t < d.length) : cl d t ∈ d := by
  unfold cl
  rw [List.getD_eq_getElem?_getD, List.getElem?_eq_getElem h]
  exact List.getElem_mem h
theorem num_cl {m : Int} (hm : 0 ≤ m) {rows : List (List Int)} (h : numOk m rows = true) {d : List Int} (hd : d ∈ rows) (t : Nat) : -m ≤ cl d t ∧ cl d t ≤ m := by
  by_cases ht : t < d.length
  · exact num_mem h hd (cl_mem ht)
  · rw [cl_out (by omega)]; omega
theorem done_ech {n : Int} (hn : inB n 1 3 = true) {rows : List (List Int)} (hl : lenOk n rows = true) (hm : numOk 1000000000 rows = true) (h : isHerm rows = true) : EchR n.toNat rows := by
  have hn' := inB_iff.1 hn
  refine ⟨fun d hd => by have := len_mem hl hd; omega, fun d hd t => by have := num_cl (by decide) hm hd t; exact ⟨by omega, by omega⟩, fun d hd => ?_, ?_⟩
  · obtain ⟨i, hi, rfl⟩ := List.mem_iff_getElem.1 hd
    have := (herm_at h hi).1
    rw [rw_mem hi] at this
    have := len_mem hl hd
    omega
  · rw [List.pairwise_iff_getElem]
    intro i j hi hj hij
    induction j with
    | zero => omega
    | succ j ih =>
      have h1 := (herm_at h hj).2.2
      rw [rw_mem hj, Nat.add_sub_cancel, rw_mem (show j < rows.length by omega)] at h1
      have h2 : pivF rows[j] < pivF rows[j + 1] := h1.elim (fun e => absurd e (by omega)) id
      rcases Nat.lt_or_eq_of_le (Nat.le_of_lt_succ hij) with e | e
      · exact Nat.lt_trans (ih (by omega) e) h2
      · subst e; exact h2
theorem rect_of {n : Int} (hn : inB n 1 3 = true) {rows : List (List Int)} (hl : lenOk n rows = true) : Rect n.toNat rows := by
  intro i hi
  rw [rw_mem hi]
  have := len_mem hl (List.getElem_mem hi)
  omega
theorem elim_inv {n : Int} (hn : inB n 1 3 = true) {rows : List (List Int)} (hl : lenOk n rows = true) (hm : numOk 100 rows = true) : ∀ k, k ≤ n.toNat → PhI n.toNat k (hermS rows k) := by
  have hn' := inB_iff.1 hn
  refine hermS_inv (by omega) (rect_of hn hl) fun t ht i => ?_
  by_cases hi : i < rows.length
  · unfold mg
    rw [rw_mem hi]
    have := num_cl (by decide) hm (List.getElem_mem hi) t
    omega
  · rw [mg_out (by omega)]; omega
theorem hermF_ech {n : Int} {rows : List (List Int)} (h : (hermF n rows).2 = true) : EchR n.toNat (hermF n rows).1 := by
  unfold hermF at h ⊢
  by_cases h1 : inB n 1 3 = false
  · rw [if_pos h1] at h; cases h
  rw [if_neg h1] at h ⊢
  have hn : inB n 1 3 = true := by simpa using h1
  by_cases h2 : (rowsOk n 1000000000 rows && isHerm rows) = true
  · rw [if_pos h2]
    rw [rowsOk_eq] at h2
    simp only [Bool.and_eq_true] at h2
    exact done_ech hn h2.1.1 h2.1.2 h2.2
  · rw [if_neg h2] at h ⊢
    by_cases h3 : 100 < rows.length ∨ rowsOk n 100 rows = false
    · rw [if_pos h3] at h; cases h
    rw [if_neg h3]
    have h4 : rowsOk n 100 rows = true := by simpa using fun e => h3 (.inr e)
    rw [rowsOk_eq, Bool.and_eq_true] at h4
    have := elim_inv hn h4.1 h4.2 n.toNat (Nat.le_refl _)
    exact ⟨this.olen, this.o64, this.opiv, this.ech⟩
/-- The reference accepts the same rows. -/
theorem rows27_eq (n : Int) (rows : List (List Int)) : rows27 n rows = (hermF n rows).2 := by
  unfold rows27 hermF
  by_cases h1 : inB n 1 3 = false
  · rw [if_pos h1, h1]; rfl
  have hn : inB n 1 3 = true := by simpa using h1
  rw [if_neg h1, hn, Bool.true_and, rowsOk_eq, rowsOk_eq]
  rcases hl : lenOk n rows with _ | _
  · simp
  rcases hh : isHerm rows with _ | _
  · rcases hm : numOk 100 rows with _ | _
    · simp
    · by_cases hc : rows.length ≤ 100
      · simp [hc, show ¬ 100 < rows.length by omega]
      · simp [hc, show 100 < rows.length by omega]
  · rcases hb : numOk 1000000000 rows with _ | _
    · rcases hm : numOk 100 rows with _ | _
      · simp
      · by_cases hc : rows.length ≤ 100
        · simp [hc, show ¬ 100 < rows.length by omega]
        · simp [hc, show 100 < rows.length by omega]
    · have hn' := inB_iff.1 hn
      have := (done_ech hn hl hb hh).length
      simp [show rows.length ≤ 100 by omega]
/-- And gives them the same form. -/
theorem hermF_form {n : Int} {rows : List (List Int)} (h : rows27 n rows = true) : (hermF n rows).1 = if (isHerm rows && numOk 1000000000 rows) = true then rows else (hermS rows n.toNat).2 := by
  have h0 := h
  rw [rows27_eq] at h
  unfold rows27 at h0
  simp only [Bool.and_eq_true] at h0
  obtain ⟨⟨⟨hn, _⟩, hl⟩, _⟩ := h0
  unfold hermF at h ⊢
  rw [if_neg (by rw [hn]; decide)] at h ⊢
  rw [rowsOk_eq, hl, Bool.true_and] at h ⊢
  by_cases h2 : (isHerm rows && numOk 1000000000 rows) = true
  · rw [if_pos h2, if_pos (by rw [Bool.and_comm]; exact h2)]
  · rw [if_neg h2, if_neg (by rw [Bool.and_comm]; exact h2)]
    rw [if_neg (by rw [Bool.and_comm]; exact h2)] at h
    split at h
    · cases h
    · rename_i h3; rw [if_neg h3]
/-! Membership. -/
def zeroB (v : List Int) : Bool := v.all fun x => x == 0
def latS : List (List Int) → List Int → Bool
  | [], x => zeroB x
  | r :: rs, x => if Int.tmod (cl x (pivF r)) (cl r (pivF r)) ≠ 0 then false else latS rs (subR x (quoW (cl x (pivF r)) (cl r (pivF r))) r)
def latI : List (List Int) → List Int → Bool
  | [], x => zeroB x
  | r :: rs, x => if (List.range (pivF r)).any (fun i => cl x i != 0) = true then false else if Int.tmod (cl x (pivF r)) (cl r (pivF r)) ≠ 0 then false else latI rs (subR x (quoW (cl x (pivF r)) (cl r (pivF r))) r)
theorem zeroB_cl {x : List Int} {i : Nat} (h : cl x i ≠ 0) : zeroB x = false := by
  unfold zeroB
  rw [List.all_eq_false]
  have hi : i < x.length := Nat.lt_of_not_le fun hl => h (cl_out hl)
  exact ⟨cl x i, cl_mem hi, by simpa using h⟩
theorem latS_stuck {i : Nat} : ∀ (rs : List (List Int)) (x : List Int), (∀ r ∈ rs, i < pivF r) → (∀ t, I64 (cl x t)) → cl x i ≠ 0 → latS rs x = false
  | [], x, _, _, h => zeroB_cl h
  | r :: rs, x, hr, h64, h => by
    unfold latS
    split
    · rfl
    · refine latS_stuck rs _ (fun r' hr' => hr r' (by simp [hr'])) (subR_64 _ _ _) ?_
      have hi : i < x.length := Nat.lt_of_not_le fun hl => h (cl_out hl)
      rw [subR_cl _ _ _ _ hi, piv_zero r i (hr r (by simp)), wS_zero (h64 i)]
      exact h
theorem lat_eq : ∀ (rs : List (List Int)) (x : List Int), rs.Pairwise (fun d e => pivF d < pivF e) → (∀ t, I64 (cl x t)) → latS rs x = latI rs x
  | [], _, _, _ => rfl
  | r :: rs, x, hp, h64 => by
    rw [List.pairwise_cons] at hp
    by_cases hc : (List.range (pivF r)).any (fun i => cl x i != 0) = true
    · obtain ⟨i, hi, hx⟩ := List.any_eq_true.1 hc
      have hi' := List.mem_range.1 hi
      have e1 : latI (r :: rs) x = false := by unfold latI; rw [if_pos hc]
      rw [e1]
      exact latS_stuck (i := i) (r :: rs) x (fun r' hr' => by
        rcases List.mem_cons.1 hr' with rfl | hr'
        · exact hi'
        · exact Nat.lt_trans hi' (hp.1 r' hr')) h64 (by simpa using hx)
    · unfold latS latI
      rw [if_neg hc]
      split
      · rfl
      · exact lat_eq rs _ hp.2 (subR_64 _ _ _)
def latF (rows : List (List Int)) (v : List Int) : Bool := (hermF v.length rows).2 && (v.all fun x => inB x (-1000000) 1000000) && latS (hermF v.length rows).1 v
def prodD (l : List (List Int)) (k : Nat) : Int := (List.range k).foldl (fun p i => wrap64 (p * cl (rw_ l i) i)) 1
theorem prodD_succ (l : List (List Int)) (k : Nat) : prodD l (k + 1) = wrap64 (prodD l k * cl (rw_ l k) k) := by
  unfold prodD
  rw [List.range_succ, List.foldl_append]
  rfl
def latN (rows : List (List Int)) (n : Int) : Int := if (hermF n rows).2 = true ∧ ¬ ((hermF n rows).1.length : Int) < n then prodD (hermF n rows).1 n.toNat else -1
end Go.Proofs.Ytnnckojpmnpgbaa
