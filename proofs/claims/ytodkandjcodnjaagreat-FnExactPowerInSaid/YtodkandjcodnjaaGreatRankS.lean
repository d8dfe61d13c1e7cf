/- The reference's IsSubgroup, RankOf, LeastRank. -/
import Derived.Test.YtodkandjcodnjaaGreatCoreS
import Derived.Test.YtodkandjcodnjaaGreatGrS
namespace Go.Proofs.YtodkandjcodnjaaGreat
set_option maxRecDepth 20000
set_option linter.unusedVariables false
set_option linter.unusedSimpArgs false
open Go.RowKit

def rankF (g : GrD) : Int := if coreB g then (g.2.2.length : Int) - g.2.1 + 1 else -1
def leastStep (m r : Int) : Int := if 0 ≤ r ∧ (m < 0 ∨ r < m) then r else m
def leastR (gs : List GrD) : Int := gs.foldl (fun m g => leastStep m (rankF g)) (-1)
theorem coreB_grB {g : GrD} (h : coreB g = true) : grB g = true := by
  unfold coreB at h
  simp only [Bool.and_eq_true] at h
  exact (foldB_parts h.1.1).1
theorem rankF_range (g : GrD) : -40 ≤ rankF g ∧ rankF g ≤ 121 := by
  unfold rankF
  rcases e : coreB g with _ | _
  · simp
  · obtain ⟨_, h1, h2, _⟩ := grB_parts (coreB_grB e)
    simp only [if_true]
    omega
theorem leastR_succ (gs : List GrD) (k : Nat) (h : k < gs.length) : leastR (gs.take (k + 1)) = leastStep (leastR (gs.take k)) (rankF gs[k]) := by
  unfold leastR
  rw [List.take_succ_eq_append_getElem h, List.foldl_append]
  rfl
theorem leastStep_range {m r : Int} (hm : -40 ≤ m ∧ m ≤ 121) (hr : -40 ≤ r ∧ r ≤ 121) : -40 ≤ leastStep m r ∧ leastStep m r ≤ 121 := by
  unfold leastStep
  split <;> assumption
theorem leastR_range (gs : List GrD) (k : Nat) (h : k ≤ gs.length) : -40 ≤ leastR (gs.take k) ∧ leastR (gs.take k) ≤ 121 := by
  induction k with
  | zero =>
    rw [List.take_zero]
    exact ⟨by decide, by decide⟩
  | succ k ih =>
    rw [leastR_succ gs k h]
    exact leastStep_range (ih (by omega)) (rankF_range _)
set_option maxHeartbeats 1000000 in
theorem specIsSubgroup_any (v : Value) (g : GrD) (w : World) (h : ArgG w v g) :
    Calls Tryz.prog 22 #[v] w fun e w' => e = .returned (.bool (coreB g)) ∧ Below w.heap.size w w' := by
  have HG := Lib.hid h
  obtain ⟨s, rfl, hi1, hi2, ha⟩ := h
  clear ha
  go_enter Tryz.func22, Tryz.ntmps22
  go_wp2_with fail
  have bx : Below w.heap.size w (w.alloc (Obj.cells #[Value.int IntKind.i64 g.1, Value.int IntKind.i64 g.2.1, s] 30)) := (by repeat (first | exact Below.refl _ _ | (refine Below.setCell ?_ (by first | omega | (simp <;> omega)) _) | (refine bel_drewN ?_ _) | (refine Below.drew ?_) | (refine Below.alloc ?_ (by first | omega | (simp <;> omega)) _)))
  refine (specIsCore_any _ g _ (HG.out.below bx)).mono ?_
  rintro e w1 ⟨rfl, b1⟩
  have b2 := bx.trans (b1.mono bx.size)
  go_wp2
  exact bodyPost_ret (v := .bool (coreB g)) (by simp [results, Tryz.results22]) rfl ⟨rfl, b2⟩
end Go.Proofs.YtodkandjcodnjaaGreat
