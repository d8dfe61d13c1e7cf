/- Plain: the reduced words up to a length, and the loops of a folded graph. -/
import Derived.Test.YtgoghkboklehnaaWalk
import Derived.Test.YtgoghkboklehnaaIsWord
import Derived.Test.YtgoghkboklehnaaLet
namespace Go.Proofs.Ytgoghkboklehnaa
set_option maxRecDepth 20000
set_option linter.unusedVariables false
set_option linter.unusedSimpArgs false
open Go.RowKit

def okW (w : List Int) (x : Int) : Bool := decide (w.length = 0) || decide (x ≠ -(w.getD (w.length - 1) 0))
def nxtW (ls : List Int) (w : List Int) : List (List Int) := (ls.filter (okW w)).map fun x => w ++ [x]
def layW (ls : List Int) : Nat → List (List Int)
  | 0 => [[]]
  | n + 1 => (layW ls n).flatMap (nxtW ls)
def uptW (ls : List Int) : Nat → List (List Int)
  | 0 => [[]]
  | n + 1 => uptW ls n ++ layW ls (n + 1)
/-- In a graph: the words that can be read from a vertex. -/
def okG (es : List EdD) (v : Int) (w : List Int) (x : Int) : Bool := okW w x && decide (0 ≤ nextV es (walkF es v w) x)
def nxtG (es : List EdD) (v : Int) (ls : List Int) (w : List Int) : List (List Int) := (ls.filter (okG es v w)).map fun x => w ++ [x]
def layG (es : List EdD) (v : Int) (ls : List Int) : Nat → List (List Int)
  | 0 => [[]]
  | n + 1 => (layG es v ls n).flatMap (nxtG es v ls)
def loopB (es : List EdD) (v : Int) (w : List Int) : Bool := decide (walkF es v w = v)
def lpG (es : List EdD) (v : Int) (ls : List Int) : Nat → List (List Int)
  | 0 => []
  | n + 1 => lpG es v ls n ++ (layG es v ls n).filter (loopB es v)
theorem flat_le {β : Type} (f : List Int → List β) (m : Nat) (h : ∀ w, (f w).length ≤ m) (L : List (List Int)) : (L.flatMap f).length ≤ L.length * m := by
  induction L with
  | nil => simp
  | cons w L ih =>
    rw [List.flatMap_cons, List.length_append, List.length_cons, Nat.add_mul, Nat.one_mul]
    have := h w
    omega
theorem nxtG_len (es : List EdD) (v : Int) (ls w : List Int) : (nxtG es v ls w).length ≤ ls.length := by
  unfold nxtG
  rw [List.length_map]
  exact List.length_filter_le _ _
theorem nxtW_len (ls w : List Int) : (nxtW ls w).length ≤ ls.length := by
  unfold nxtW
  rw [List.length_map]
  exact List.length_filter_le _ _
theorem layG_len (es : List EdD) (v : Int) (ls : List Int) (hl : ls.length ≤ 6) : ∀ n, (layG es v ls n).length ≤ 6 ^ n
  | 0 => by simp [layG]
  | n + 1 => by
    have := layG_len es v ls hl n
    have h2 := flat_le (nxtG es v ls) 6 (fun w => Nat.le_trans (nxtG_len es v ls w) hl) (layG es v ls n)
    rw [Nat.pow_succ]
    unfold layG
    exact Nat.le_trans h2 (Nat.mul_le_mul_right 6 this)
theorem layW_len (ls : List Int) (hl : ls.length ≤ 6) : ∀ n, (layW ls n).length ≤ 6 ^ n
  | 0 => by simp [layW]
  | n + 1 => by
    have := layW_len ls hl n
    have h2 := flat_le (nxtW ls) 6 (fun w => Nat.le_trans (nxtW_len ls w) hl) (layW ls n)
    rw [Nat.pow_succ]
    unfold layW
    exact Nat.le_trans h2 (Nat.mul_le_mul_right 6 this)
theorem lpG_len (es : List EdD) (v : Int) (ls : List Int) (hl : ls.length ≤ 6) : ∀ n, (lpG es v ls n).length ≤ 6 ^ n
  | 0 => by simp [lpG]
  | n + 1 => by
    have := lpG_len es v ls hl n
    have h1 := layG_len es v ls hl n
    have h2 := List.length_filter_le (loopB es v) (layG es v ls n)
    unfold lpG
    rw [List.length_append, Nat.pow_succ]
    omega
theorem uptW_len (ls : List Int) (hl : ls.length ≤ 6) : ∀ n, (uptW ls n).length ≤ 6 ^ (n + 1)
  | 0 => by simp [uptW]
  | n + 1 => by
    have := uptW_len ls hl n
    have h1 := layW_len ls hl (n + 1)
    unfold uptW
    rw [List.length_append, Nat.pow_succ 6 (n + 1)]
    omega
theorem walkF_snoc (es : List EdD) : ∀ (w : List Int) (v x : Int), 0 ≤ walkF es v w → walkF es v (w ++ [x]) = if nextV es (walkF es v w) x < 0 then -1 else nextV es (walkF es v w) x
  | [], v, x, _ => rfl
  | y :: w, v, x, h => by
    rw [List.cons_append]
    unfold walkF at h ⊢
    split at h
    · exact absurd h (by decide)
    · rename_i hn
      rw [if_neg hn, if_neg hn]
      exact walkF_snoc es w _ x h
theorem layG_mem (es : List EdD) (v : Int) (ls : List Int) (hv : 0 ≤ v) : ∀ n, ∀ w ∈ layG es v ls n, w.length = n ∧ (∀ x ∈ w, x ∈ ls) ∧ 0 ≤ walkF es v w
  | 0, w, hw => by
    rw [List.mem_singleton.1 hw]
    exact ⟨rfl, fun x hx => (by cases hx), hv⟩
  | n + 1, w, hw => by
    unfold layG at hw
    obtain ⟨u, hu, hw⟩ := List.mem_flatMap.1 hw
    obtain ⟨h1, h2, h3⟩ := layG_mem es v ls hv n u hu
    unfold nxtG at hw
    obtain ⟨x, hx, rfl⟩ := List.mem_map.1 hw
    obtain ⟨hx1, hx2⟩ := List.mem_filter.1 hx
    unfold okG at hx2
    simp only [Bool.and_eq_true, decide_eq_true_eq] at hx2
    refine ⟨by simp [h1], fun y hy => ?_, ?_⟩
    · rcases List.mem_append.1 hy with hy | hy
      · exact h2 y hy
      · rw [List.mem_singleton.1 hy]; exact hx1
    · rw [walkF_snoc es u v x h3, if_neg (by omega)]
      exact hx2.2
theorem lpG_mem (es : List EdD) (v : Int) (ls : List Int) (hv : 0 ≤ v) : ∀ n, ∀ w ∈ lpG es v ls n, w.length < n ∧ (∀ x ∈ w, x ∈ ls)
  | 0, w, hw => by cases hw
  | n + 1, w, hw => by
    unfold lpG at hw
    rcases List.mem_append.1 hw with hw | hw
    · have := lpG_mem es v ls hv n w hw
      exact ⟨by omega, this.2⟩
    · have := layG_mem es v ls hv n w (List.mem_filter.1 hw).1
      exact ⟨by omega, this.2.1⟩
/-- A whole group's graph: one vertex, a loop for each letter. -/
def wholeE (r : Nat) : List EdD := (List.range r).map fun (i : Nat) => (0, (i : Int) + 1, 0)
def wholeG (r : Nat) : GrD := ((r : Int), 1, wholeE r)
theorem whole_next {r : Nat} (hr : r ≤ 3) : ∀ x ∈ lettersL r, nextV (wholeE r) 0 x = 0 := by
  have : r = 0 ∨ r = 1 ∨ r = 2 ∨ r = 3 := by omega
  rcases this with rfl | rfl | rfl | rfl <;> decide +kernel
theorem whole_fold {r : Nat} (h1 : 1 ≤ r) (hr : r ≤ 3) : foldB (wholeG r) = true := by
  have : r = 1 ∨ r = 2 ∨ r = 3 := by omega
  rcases this with rfl | rfl | rfl <;> decide +kernel
theorem whole_walk {r : Nat} (hr : r ≤ 3) : ∀ w : List Int, (∀ x ∈ w, x ∈ lettersL r) → walkF (wholeE r) 0 w = 0
  | [], _ => rfl
  | x :: w, h => by
    unfold walkF
    rw [whole_next hr x (h x (by simp)), if_neg (by decide)]
    exact whole_walk hr w fun y hy => h y (by simp [hy])
theorem layW_mem (ls : List Int) : ∀ n, ∀ w ∈ layW ls n, w.length = n ∧ (∀ x ∈ w, x ∈ ls)
  | 0, w, hw => by
    rw [List.mem_singleton.1 hw]
    exact ⟨rfl, fun x hx => by cases hx⟩
  | n + 1, w, hw => by
    unfold layW at hw
    obtain ⟨u, hu, hw⟩ := List.mem_flatMap.1 hw
    obtain ⟨h1, h2⟩ := layW_mem ls n u hu
    unfold nxtW at hw
    obtain ⟨x, hx, rfl⟩ := List.mem_map.1 hw
    refine ⟨by simp [h1], fun y hy => ?_⟩
    rcases List.mem_append.1 hy with hy | hy
    · exact h2 y hy
    · rw [List.mem_singleton.1 hy]; exact (List.mem_filter.1 hx).1
theorem flatMap_congr' {β : Type} {f g : List Int → List β} : ∀ {L : List (List Int)}, (∀ w ∈ L, f w = g w) → L.flatMap f = L.flatMap g
  | [], _ => rfl
  | w :: L, h => by
    rw [List.flatMap_cons, List.flatMap_cons, h w (by simp), flatMap_congr' fun u hu => h u (by simp [hu])]
theorem whole_lay {r : Nat} (hr : r ≤ 3) : ∀ n, layG (wholeE r) 0 (lettersL r) n = layW (lettersL r) n
  | 0 => rfl
  | n + 1 => by
    unfold layG layW
    rw [whole_lay hr n]
    refine flatMap_congr' fun w hw => ?_
    unfold nxtG nxtW
    congr 1
    refine List.filter_congr fun x hx => ?_
    unfold okG
    rw [whole_walk hr w (layW_mem _ n w hw).2, whole_next hr x hx]
    simp
theorem whole_loops {r : Nat} (hr : r ≤ 3) : ∀ n, lpG (wholeE r) 0 (lettersL r) (n + 1) = uptW (lettersL r) n := by
  have hf : ∀ n, (layG (wholeE r) 0 (lettersL r) n).filter (loopB (wholeE r) 0) = layW (lettersL r) n := fun n => by
    rw [whole_lay hr n, List.filter_eq_self]
    intro w hw
    unfold loopB
    rw [whole_walk hr w (layW_mem _ n w hw).2]
    rfl
  intro n
  induction n with
  | zero => show lpG _ _ _ 0 ++ _ = _; rw [hf]; rfl
  | succ n ih => show lpG _ _ _ (n + 1) ++ _ = _; rw [hf, ih]; rfl
/-- All of them are words. -/
def wOk (r : Int) (w : List Int) : Prop := ∀ i, i < w.length → okAt r w i = true
theorem wOk_snoc {r : Nat} (h1 : 1 ≤ r) (hr : r ≤ 3) {w : List Int} {x : Int} (hx : x ∈ lettersL r) (hw : ∀ y ∈ w, y ∈ lettersL r) (h : wOk r w) (ho : okW w x = true) : wOk r (w ++ [x]) := by
  intro i hi
  rw [List.length_append, List.length_singleton] at hi
  by_cases hlt : i < w.length
  · have := h i hlt
    unfold okAt at this ⊢
    have e1 : (w ++ [x]).getD i 0 = w.getD i 0 := by simp [List.getD, List.getElem?_append_left hlt]
    have e2 : (w ++ [x]).getD (i - 1) 0 = w.getD (i - 1) 0 := by simp [List.getD, List.getElem?_append_left (show i - 1 < w.length by omega)]
    rw [e1, e2]
    exact this
  · obtain rfl : i = w.length := by omega
    have e1 : (w ++ [x]).getD w.length 0 = x := by simp [List.getD]
    have hlx : letB r x = true := by
      rw [letB_iff (inB_iff.2 (by omega))]
      have := lettersL_mem hx
      omega
    unfold okAt
    rw [e1, hlx, Bool.true_and]
    by_cases h0 : 0 < w.length
    · have e2 : (w ++ [x]).getD (w.length - 1) 0 = w.getD (w.length - 1) 0 := by simp [List.getD, List.getElem?_append_left (show w.length - 1 < w.length by omega)]
      rw [e2]
      unfold okW at ho
      simp only [Bool.or_eq_true, decide_eq_true_eq] at ho
      have hne : x ≠ -(w.getD (w.length - 1) 0) := ho.elim (fun h => absurd h (by omega)) id
      have : invB (w.getD (w.length - 1) 0) x = false := by
        unfold invB
        simp only [Bool.and_eq_false_iff]
        exact .inr (by simpa using hne)
      rw [this]
      simp
    · simp [h0]
theorem layW_ok {r : Nat} (h1 : 1 ≤ r) (hr : r ≤ 3) : ∀ n, ∀ w ∈ layW (lettersL r) n, wOk r w
  | 0, w, hw => by
    rw [List.mem_singleton.1 hw]
    intro i hi; cases hi
  | n + 1, w, hw => by
    unfold layW at hw
    obtain ⟨u, hu, hw⟩ := List.mem_flatMap.1 hw
    unfold nxtW at hw
    obtain ⟨x, hx, rfl⟩ := List.mem_map.1 hw
    obtain ⟨hx1, hx2⟩ := List.mem_filter.1 hx
    exact wOk_snoc h1 hr hx1 (layW_mem _ n u hu).2 (layW_ok h1 hr n u hu) hx2
theorem uptW_mem (ls : List Int) : ∀ n, ∀ w ∈ uptW ls n, ∃ m, m ≤ n ∧ w ∈ layW ls m
  | 0, w, hw => ⟨0, Nat.le_refl _, hw⟩
  | n + 1, w, hw => by
    unfold uptW at hw
    rcases List.mem_append.1 hw with hw | hw
    · obtain ⟨m, h1, h2⟩ := uptW_mem ls n w hw
      exact ⟨m, by omega, h2⟩
    · exact ⟨n + 1, Nat.le_refl _, hw⟩
theorem uptW_word {r : Nat} (h1 : 1 ≤ r) (hr : r ≤ 3) {n : Nat} (hn : n ≤ 24) : ∀ w ∈ uptW (lettersL r) n, wordB r w = true ∧ w.length ≤ n := by
  intro w hw
  obtain ⟨m, hm, hw⟩ := uptW_mem _ n w hw
  have hl := (layW_mem _ m w hw).1
  exact ⟨wordB_true (inB_iff.2 (by omega)) (by omega) (layW_ok h1 hr m w hw), by omega⟩
end Go.Proofs.Ytgoghkboklehnaa
