/- The vertices that are reached from one: the reference's ReachedFrom. -/
import Derived.Test.YtbflljcafbneaaaConn
import Derived.Test.YtbflljcafbneaaaHas
import Derived.Test.YtbflljcafbneaaaGrD
import Derived.Test.YtbflljcafbneaaaGrB
namespace Go.Proofs.Ytbflljcafbneaaa
set_option maxRecDepth 20000
set_option linter.unusedVariables false
set_option linter.unusedSimpArgs false
open Go.RowKit

theorem hasB_iff {l : List Int} {x : Int} : hasB l x = true ↔ x ∈ l := by
  unfold hasB
  rw [List.any_eq_true]
  constructor
  · rintro ⟨y, hy, h⟩
    have : y = x := by simpa using h
    rw [← this]; exact hy
  · intro h
    exact ⟨x, h, by simp⟩
theorem hasB_not {l : List Int} {x : Int} (h : hasB l x = false) : x ∉ l := fun hm => by
  rw [hasB_iff.2 hm] at h
  cases h
theorem stepR_len (o : List Int) (e : EdD) : (stepR o e).length ≤ o.length + 2 := by
  unfold stepR
  have h1 : (if e.1 ∈ o then insF cmpI o e.2.2 else o).length ≤ o.length + 1 := by
    split
    · exact insF_len _ _
    · omega
  generalize (if e.1 ∈ o then insF cmpI o e.2.2 else o) = o1 at h1 ⊢
  split
  · have := insF_len (c := cmpI) o1 e.1
    omega
  · omega
theorem foldR_len (es : List EdD) (o : List Int) : (es.foldl stepR o).length ≤ o.length + 2 * es.length := by
  induction es generalizing o with
  | nil => simp
  | cons e es ih =>
    have h1 := ih (stepR o e)
    have h2 := stepR_len o e
    simp only [List.foldl_cons, List.length_cons]
    omega
theorem iterR_len (es : List EdD) (v : Int) (i : Nat) (hl : es.length ≤ 120) : (iterR es v i).length ≤ 1 + 240 * i := by
  induction i with
  | zero => simp [iterR]
  | succ i ih =>
    have := foldR_len es (iterR es v i)
    show (passR es (iterR es v i)).length ≤ _
    unfold passR
    omega
def rsL (es : List EdD) (v : Int) (i k : Nat) : List Int := (es.take k).foldl stepR (iterR es v i)
theorem rsL_succ (es : List EdD) (v : Int) (i k : Nat) (h : k < es.length) : rsL es v i (k + 1) = stepR (rsL es v i k) es[k] := by
  unfold rsL
  rw [List.take_succ_eq_append_getElem h, List.foldl_append]
  rfl
theorem rsL_len (es : List EdD) (v : Int) (i k : Nat) (hl : es.length ≤ 120) (hi : i ≤ 121) (hk : k ≤ 120) : (rsL es v i k).length ≤ 100000 := by
  have h1 := iterR_len es v i hl
  have h2 := foldR_len (es.take k) (iterR es v i)
  have h3 : (es.take k).length ≤ k := List.length_take_le _ _
  unfold rsL
  omega
theorem stepR_ff {o : List Int} {e : EdD} (h1 : hasB o e.1 = false) (h2 : hasB o e.2.2 = false) : stepR o e = o := by
  unfold stepR
  rw [if_neg (hasB_not h1), if_neg (hasB_not h2)]
theorem stepR_ft {o : List Int} {e : EdD} (h1 : hasB o e.1 = false) (h2 : hasB o e.2.2 = true) : stepR o e = insF cmpI o e.1 := by
  unfold stepR
  rw [if_neg (hasB_not h1), if_pos (hasB_iff.1 h2)]
theorem stepR_t {o : List Int} {e : EdD} (h1 : hasB o e.1 = true) : stepR o e = insF cmpI (insF cmpI o e.2.2) e.1 := by
  unfold stepR
  rw [if_pos (hasB_iff.1 h1), if_pos (insF_mem.2 (.inl rfl))]
end Go.Proofs.Ytbflljcafbneaaa
