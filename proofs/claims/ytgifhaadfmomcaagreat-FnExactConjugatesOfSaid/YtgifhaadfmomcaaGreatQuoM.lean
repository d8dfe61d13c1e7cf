/- How many ints the quotients hold. -/
import Derived.Test.YtgifhaadfmomcaaGreatQuo
import Derived.Test.YtgifhaadfmomcaaGreatMarkGS
namespace Go.Proofs.YtgifhaadfmomcaaGreat
set_option maxRecDepth 20000
set_option linter.unusedVariables false
set_option linter.unusedSimpArgs false
open Go.RowKit

theorem core_len {g : GrD} (h : grB g = true) : (coreG g).2.2.length ≤ 120 := by
  have h1 := (grB_parts (foldB_parts (trimG_fold (folA_ok h))).1).2.2.1
  have h2 := srt_len (c := cmpE) (rnL (trimG (folA g)).1.2.2 (canO (trimG (folA g)).1))
  have h3 := rnL_len (trimG (folA g)).1.2.2 (canO (trimG (folA g)).1)
  show (srt cmpE (rnL (trimG (folA g)).1.2.2 (canO (trimG (folA g)).1))).length ≤ 120
  omega
theorem addG_mem {l : List GrD} {x : GrD} (hl : ∀ d ∈ l, d.2.2.length ≤ 120) (hx : x.2.2.length ≤ 120) : ∀ d ∈ addG l x, d.2.2.length ≤ 120 := by
  intro d hd
  unfold addG at hd
  split at hd
  · exact hl d hd
  · rcases List.mem_append.1 hd with h | h
    · exact hl d h
    · rw [List.mem_singleton.1 h]; exact hx
theorem quoV_mem {g : GrD} (hg : grB g = true) (u : Nat) {out : List GrD} (ho : ∀ d ∈ out, d.2.2.length ≤ 120) : ∀ j, u + j < g.2.1.toNat ∨ j = 0 → ∀ d ∈ quoV g u out j, d.2.2.length ≤ 120
  | 0, _ => ho
  | j + 1, hj => by
    have hs := (grB_parts hg).2.1
    refine addG_mem (quoV_mem hg u ho j (by omega)) (core_len (grB_merG hg ?_))
    simp only
    omega
theorem quoU_mem {g : GrD} (hg : grB g = true) : ∀ u, u ≤ g.2.1.toNat → ∀ d ∈ quoU g u, d.2.2.length ≤ 120
  | 0, _ => fun d hd => by cases hd
  | u + 1, hu => quoV_mem hg u (quoU_mem hg u (by omega)) _ (by omega)
theorem cntG_le : ∀ {L : List GrD}, (∀ d ∈ L, d.2.2.length ≤ 120) → cntL cG L ≤ L.length * 362
  | [], _ => by simp [cntL]
  | x :: L, h => by
    have h1 := cntG_le (L := L) fun y hy => h y (by simp [hy])
    have h2 := h x (by simp)
    unfold cntL at h1 ⊢
    rw [List.map_cons, List.sum_cons, List.length_cons, Nat.add_mul, Nat.one_mul]
    unfold cG at h1 ⊢
    omega
theorem quot_cnt (g : GrD) : cntL cG (quotF g) ≤ 1073741824 := by
  unfold quotF
  split
  · rename_i h
    have hf : foldB g = true := by unfold coreB at h; simp only [Bool.and_eq_true] at h; exact h.1.1
    have hg := (foldB_parts hf).1
    have hs := (grB_parts hg).2.1
    have h1 := cntG_le (quoU_mem hg g.2.1.toNat (Nat.le_refl _))
    have h2 := quoU_len g g.2.1.toNat
    have h3 : g.2.1.toNat * g.2.1.toNat ≤ 40 * 40 := Nat.mul_le_mul (by omega) (by omega)
    omega
  · simp [cntL]
end Go.Proofs.YtgifhaadfmomcaaGreat
