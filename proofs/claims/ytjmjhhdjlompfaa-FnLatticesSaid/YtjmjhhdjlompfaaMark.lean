/- Marking the elements of a list one after the other: plain Lean. -/
namespace Go.Proofs.Ytjmjhhdjlompfaa
set_option maxRecDepth 20000
set_option linter.unusedVariables false
set_option linter.unusedSimpArgs false

section
variable {α : Type} (c : α → Nat) (m : Int → α → α)
/-- How many marks a list takes; the list marked from k on; marked as far as i. -/
def cntL (ds : List α) : Nat := (ds.map c).sum
def mkL (k : Int) : List α → List α
  | [] => []
  | d :: ds => m k d :: mkL (k + c d) ds
def mkAt (k : Int) (ds : List α) (i : Nat) : List α := mkL c m k (ds.take i) ++ ds.drop i
variable {c m}
theorem cntL_append (a b : List α) : cntL c (a ++ b) = cntL c a + cntL c b := by simp [cntL]
theorem cntL_cons (d : α) (ds : List α) : cntL c (d :: ds) = c d + cntL c ds := by simp [cntL]
theorem cntL_succ (ds : List α) (i : Nat) (h : i < ds.length) : cntL c (ds.take (i + 1)) = cntL c (ds.take i) + c ds[i] := by
  rw [List.take_succ_eq_append_getElem h, cntL_append]
  simp [cntL]
theorem cntL_take (ds : List α) (i : Nat) : cntL c (ds.take i) ≤ cntL c ds := by
  have := cntL_append (c := c) (ds.take i) (ds.drop i)
  rw [List.take_append_drop] at this
  omega
theorem cntL_at (ds : List α) (i : Nat) (h : i < ds.length) : cntL c (ds.take i) + c ds[i] ≤ cntL c ds := by
  have := cntL_take (c := c) ds (i + 1)
  rw [cntL_succ ds i h] at this
  exact this
theorem mkL_length (k : Int) (ds : List α) : (mkL c m k ds).length = ds.length := by
  induction ds generalizing k with
  | nil => rfl
  | cons d ds ih => simp [mkL, ih]
theorem mkL_append (k : Int) (a b : List α) : mkL c m k (a ++ b) = mkL c m k a ++ mkL c m (k + cntL c a) b := by
  induction a generalizing k with
  | nil => simp [mkL, cntL]
  | cons d a ih =>
    simp only [List.cons_append, mkL, ih, cntL_cons]
    congr 3
    omega
theorem mkAt_zero (k : Int) (ds : List α) : mkAt c m k ds 0 = ds := by simp [mkAt, mkL]
theorem mkAt_all (k : Int) (ds : List α) : mkAt c m k ds ds.length = mkL c m k ds := by simp [mkAt]
theorem mkAt_length (k : Int) (ds : List α) (i : Nat) : (mkAt c m k ds i).length = ds.length := by
  simp only [mkAt, List.length_append, mkL_length, List.length_take, List.length_drop]
  omega
theorem mkAt_form (k : Int) (ds : List α) (i : Nat) (h : i < ds.length) : mkAt c m k ds i = mkL c m k (ds.take i) ++ ds[i] :: ds.drop (i + 1) := by
  unfold mkAt
  rw [← List.drop_eq_getElem_cons h]
theorem mkAt_get (k : Int) (ds : List α) (i : Nat) (h : i < ds.length) (h' : i < (mkAt c m k ds i).length) : (mkAt c m k ds i)[i] = ds[i] := by
  simp only [mkAt_form k ds i h]
  rw [List.getElem_append_right (by simp [mkL_length]; omega)]
  simp [mkL_length, Nat.min_eq_left (Nat.le_of_lt h)]
theorem mkAt_succ (k : Int) (ds : List α) (i : Nat) (h : i < ds.length) : (mkAt c m k ds i).set i (m (k + cntL c (ds.take i)) ds[i]) = mkAt c m k ds (i + 1) := by
  have hl : (mkL c m k (ds.take i)).length = i := by rw [mkL_length, List.length_take]; omega
  rw [mkAt_form k ds i h, List.set_append_right _ _ (by omega), hl, Nat.sub_self, List.set_cons_zero]
  unfold mkAt
  rw [List.take_succ_eq_append_getElem h, mkL_append]
  simp only [mkL, List.append_assoc, List.cons_append, List.nil_append]
/-- An element of the marked list, and what is counted before it. -/
theorem mkL_get (k : Int) (ds : List α) (i : Nat) (h : i < ds.length) (h' : i < (mkL c m k ds).length) : (mkL c m k ds)[i] = m (k + cntL c (ds.take i)) ds[i] := by
  have e : ds = ds.take i ++ ds[i] :: ds.drop (i + 1) := by rw [← List.drop_eq_getElem_cons h, List.take_append_drop]
  have e2 : mkL c m k ds = mkL c m k (ds.take i) ++ (m (k + cntL c (ds.take i)) ds[i] :: mkL c m (k + cntL c (ds.take i) + c ds[i]) (ds.drop (i + 1))) := by
    conv => lhs; rw [e]
    rw [mkL_append]
    rfl
  simp only [e2]
  rw [List.getElem_append_right (by simp [mkL_length]; omega)]
  simp [mkL_length, Nat.min_eq_left (Nat.le_of_lt h)]
end
end Go.Proofs.Ytjmjhhdjlompfaa
