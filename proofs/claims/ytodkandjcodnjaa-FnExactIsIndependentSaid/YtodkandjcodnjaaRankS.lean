/- The reference's IsSubgroup, RankOf, LeastRank. -/
import Derived.Test.YtodkandjcodnjaaCoreS
import Derived.Test.YtodkandjcodnjaaGrS
namespace Go.Proofs.Ytodkandjcodnjaa
set_option maxRecDepth 20000
set_option linter.unusedVariables false
set_option linter.unusedSimpArgs false
open Go.RowKit

def rankF (g : GrD) : Int := if coreB g then (g.2.2.length : Int) - g.2.1 + 1 else -1
def leastStep (m r : Int) : Int := if 0 ≤ r ∧ (m < 0 ∨ r < m) then r else m
def leastR (gs : List GrD) : Int := gs.foldl (fun m g => leastStep m (rankF g)) (-1)
theorem coreB_grB {g : GrD} (h : coreB g = true) : grB g = true := by
  unfold coreB at h
  simp only [Bool.and_eq_true] at h
  exact (foldB_parts h.1.1).1
theorem rankF_range (g : GrD) : -40 ≤ rankF g ∧ rankF g ≤ 121 := by
  unfold rankF
  rcases e : coreB g with _ | _
  · simp
  · obtain ⟨_, h1, h2, _⟩ := grB_parts (coreB_grB e)
    simp only [if_true]
    omega
theorem leastR_succ (gs : List GrD) (k : Nat) (h : k < gs.length) : leastR (gs.take (k + 1)) = leastStep (leastR (gs.take k)) (rankF gs[k]) := by
  unfold leastR
  rw [List.take_succ_eq_append_getElem h, List.foldl_append]
  rfl
theorem leastStep_range {m r : Int} (hm : -40 ≤ m ∧ m ≤ 121) (hr : -40 ≤ r ∧ r ≤ 121) : -40 ≤ leastStep m r ∧ leastStep m r ≤ 121 := by
  unfold leastStep
  split <;> assumption
theorem leastR_range (gs : List GrD) (k : Nat) (h : k ≤ gs.length) : -40 ≤ leastR (gs.take k) ∧ leastR (gs.take k) ≤ 121 := by
  induction k with
  | zero =>
    rw [List.take_zero]
    exact ⟨by decide, by decide⟩
  | succ k ih =>
    rw [leastR_succ gs k h]
    exact leastStep_range (ih (by omega)) (rankF_range _)
set_option maxHeartbeats 1000000 in
theorem specIsSubgroup_any (v : Value) (g : GrD) (w : World) (h : ArgG w v g) :
    Calls Try.prog 29 #[v] w fun e w' => e = .returned (.bool (coreB g)) ∧ Below w.heap.size w w' := by
  have HG := Lib.hid h
  obtain ⟨s, rfl, hi1, hi2, ha⟩ := h
  clear ha
  go_enter Try.func29, Try.ntmps29
  go_wp2_with fail
  have bx : Below w.heap.size w (w.alloc (Obj.cells #[Value.int IntKind.i64 g.1, Value.int IntKind.i64 g.2.1, s] 36)) := (by repeat (first | exact Below.refl _ _ | (refine Below.setCell ?_ (by first | omega | (simp <;> omega)) _) | (refine bel_drewN ?_ _) | (refine Below.drew ?_) | (refine Below.alloc ?_ (by first | omega | (simp <;> omega)) _)))
  refine (specIsCore_any _ g _ (HG.out.below bx)).mono ?_
  rintro e w1 ⟨rfl, b1⟩
  have b2 := bx.trans (b1.mono bx.size)
  go_wp2
  exact bodyPost_ret (v := .bool (coreB g)) (by simp [results, Try.results29]) rfl ⟨rfl, b2⟩
set_option maxHeartbeats 1000000 in
theorem specRankOf_any (v : Value) (g : GrD) (w : World) (h : ArgG w v g) :
    Calls Try.prog 25 #[v] w fun e w' => e = .returned (.int .i64 (rankF g)) ∧ Below w.heap.size w w' := by
  have HG := Lib.hid h
  obtain ⟨s, rfl, hi1, hi2, ha⟩ := h
  obtain ⟨A, cap, rfl, hcap, hm, _⟩ := ha
  have HP : Hid (coreB g = true → g.2.1 ≤ 40 ∧ 1 ≤ g.2.1 ∧ g.2.2.length ≤ 120) := Lib.hid fun e => by
    obtain ⟨_, h1, h2, _⟩ := grB_parts (coreB_grB e)
    exact ⟨h1.2, h1.1, h2⟩
  have HR : Hid (rankF g = if coreB g then (g.2.2.length : Int) - g.2.1 + 1 else -1) := Lib.hid rfl
  generalize rankF g = rk at *
  go_enter Try.func25, Try.ntmps25
  go_wp2_with fail
  have bx : Below w.heap.size w (w.alloc (Obj.cells #[Value.int IntKind.i64 g.1, Value.int IntKind.i64 g.2.1, .slice A g.2.2.length cap] 36)) := (by repeat (first | exact Below.refl _ _ | (refine Below.setCell ?_ (by first | omega | (simp <;> omega)) _) | (refine bel_drewN ?_ _) | (refine Below.drew ?_) | (refine Below.alloc ?_ (by first | omega | (simp <;> omega)) _)))
  have l1 : (w.alloc (Obj.cells #[Value.int IntKind.i64 g.1, Value.int IntKind.i64 g.2.1, .slice A g.2.2.length cap] 36)).cell? ⟨w.heap.size, 1, none⟩ = some (.int .i64 g.2.1) := by simp [go_sem]
  have l2 : (w.alloc (Obj.cells #[Value.int IntKind.i64 g.1, Value.int IntKind.i64 g.2.1, .slice A g.2.2.length cap] 36)).cell? ⟨w.heap.size, 2, none⟩ = some (.slice A g.2.2.length cap) := by simp [go_sem]
  have sA : w.heap.size < (w.alloc (Obj.cells #[Value.int IntKind.i64 g.1, Value.int IntKind.i64 g.2.1, .slice A g.2.2.length cap] 36)).heap.size := by simp
  have ax := HG.out.below bx
  generalize w.alloc (Obj.cells #[Value.int IntKind.i64 g.1, Value.int IntKind.i64 g.2.1, .slice A g.2.2.length cap] 36) = W at bx l1 l2 sA ax ⊢
  refine (specIsSubgroup_any _ g _ ax).mono ?_
  rintro e w1 ⟨rfl, b1⟩
  have B2 := Lib.hid (bx.trans (b1.mono bx.size))
  have c1 := (b1.cell (p := ⟨w.heap.size, 1, none⟩) sA).trans l1
  have c2 := (b1.cell (p := ⟨w.heap.size, 2, none⟩) sA).trans l2
  clear b1 bx l1 l2 ax
  rcases e1 : coreB g with _ | _
  · have HR2 : Hid (rk = -1) := Lib.hid (by rw [HR.out, e1]; rfl)
    clear e1
    go_wp2
    exact bodyPost_ret (v := .int .i64 (-1)) (by simp [results, Try.results25]) rfl ⟨by rw [HR2.out], B2.out⟩
  · obtain ⟨p1, p2, p3⟩ := HP.out e1
    have HR2 : Hid (rk = (g.2.2.length : Int) - g.2.1 + 1) := Lib.hid (by rw [HR.out, e1, if_pos rfl])
    clear e1
    go_wp2
    exact bodyPost_ret (v := .int .i64 ((g.2.2.length : Int) - g.2.1 + 1)) (by simp [results, Try.results25]; try (go_num)) rfl ⟨by rw [HR2.out], B2.out⟩
set_option maxHeartbeats 1000000 in
theorem specLeastRank_any (v : Value) (gs : List GrD) (w : World) (h : ArgGS w v gs) :
    Calls Try.prog 8 #[v] w fun e w' => e = .returned (.int .i64 (leastR gs)) ∧ Below w.heap.size w w' := by
  have H := Lib.hid h
  obtain ⟨A, cap, rfl, hcap, hm, _⟩ := h
  unfold maxLen at hm
  go_enter Try.func8, Try.ntmps8
  go_wp2
  go_loopw [3, 4] (fun b i wr => ∃ k : Nat, k ≤ gs.length ∧ i = .int .i64 k ∧ b = .int .i64 (leastR (gs.take k)) ∧ Below w.heap.size w wr) (fun _ i _ => gs.length - (intOf i).toNat)
  case atStart => exact ⟨0, Nat.zero_le _, rfl, rfl, Below.refl _ _⟩
  case round =>
    obtain ⟨k, hk, rfl, rfl, hbel⟩ := hrel
    have HB := Lib.hid hbel
    by_cases hlt : k < gs.length
    · obtain ⟨g, off, s', rfl, hg, c0, c1, c2, ha⟩ := (H.out.below hbel).at hlt
      have X1 := Lib.hid ha
      have HS := Lib.hid (leastR_succ gs k hlt)
      have hrm := leastR_range gs k hk
      have hrr := rankF_range gs[k]
      clear ha hbel
      generalize leastR (gs.take k) = m at *
      generalize gs[k] = x at *
      go_wp2_with fail
      refine (specRankOf_any _ x _ X1.out).mono ?_
      rintro e w9 ⟨rfl, b9⟩
      have B9 := Lib.hid (HB.out.trans (b9.mono HB.out.size))
      have STEP : Hid (leastStep m (rankF x) = if 0 ≤ rankF x ∧ (m < 0 ∨ rankF x < m) then rankF x else m) := Lib.hid rfl
      generalize rankF x = r at *
      clear b9 c0 c1 c2
      by_cases t1 : 0 ≤ r
      · by_cases t2 : m < 0
        · have F : Hid (leastStep m r = r) := Lib.hid (by rw [STEP.out, if_pos ⟨t1, .inl t2⟩])
          go_wp2
          go_roundw
          case rel => exact ⟨k + 1, by omega, by go_num, by rw [HS.out, F.out], B9.out⟩
          case measure => simp [intOf]; omega
        · by_cases t3 : r < m
          · have F : Hid (leastStep m r = r) := Lib.hid (by rw [STEP.out, if_pos ⟨t1, .inr t3⟩])
            go_wp2
            go_roundw
            case rel => exact ⟨k + 1, by omega, by go_num, by rw [HS.out, F.out], B9.out⟩
            case measure => simp [intOf]; omega
          · have F : Hid (leastStep m r = m) := Lib.hid (by rw [STEP.out, if_neg (fun h => h.2.elim t2 t3)])
            go_wp2
            go_roundw
            case rel => exact ⟨k + 1, by omega, by go_num, by rw [HS.out, F.out], B9.out⟩
            case measure => simp [intOf]; omega
      · have F : Hid (leastStep m r = m) := Lib.hid (by rw [STEP.out, if_neg (fun h => t1 h.1)])
        go_wp2
        go_roundw
        case rel => exact ⟨k + 1, by omega, by go_num, by rw [HS.out, F.out], B9.out⟩
        case measure => simp [intOf]; omega
    · obtain rfl : k = gs.length := by omega
      rw [List.take_length]
      obtain ⟨m, hm'⟩ : ∃ m, m = leastR gs := ⟨_, rfl⟩
      rw [← hm']
      have HL := Lib.hid hm'
      clear hm'
      clear hbel
      go_wp2
      exact bodyPost_ret (v := .int .i64 m) (by simp [results, Try.results8]) rfl ⟨by rw [HL.out], HB.out⟩
end Go.Proofs.Ytodkandjcodnjaa
