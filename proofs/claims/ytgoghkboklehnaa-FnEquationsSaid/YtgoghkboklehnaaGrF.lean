/- Which graphs are folded: IsFolded of the reference and of the program. -/
import Derived.Test.YtgoghkboklehnaaGrC
import Derived.Test.YtgoghkboklehnaaOrd
namespace Go.Proofs.Ytgoghkboklehnaa
set_option maxRecDepth 20000
set_option linter.unusedVariables false
set_option linter.unusedSimpArgs false
open Go.RowKit

/-- Two edges that may not both stand in a folded graph. -/
def clash (a b : EdD) : Bool := (a.2.1 == b.2.1) && ((a.1 == b.1) || (a.2.2 == b.2.2))
theorem clash_comm (a b : EdD) : clash a b = clash b a := by
  have h : ∀ x y : Int, (x == y) = (y == x) := fun x y => by rw [Bool.eq_iff_iff]; simp; constructor <;> (intro h; exact h.symm)
  unfold clash
  rw [h a.2.1, h a.1, h a.2.2]
def Fol (es : List EdD) : Prop := es.Pairwise fun a b => clash a b = false
instance (es : List EdD) : Decidable (Fol es) := by unfold Fol; infer_instance
def foldB (g : GrD) : Bool := grB g && decide (Fol g.2.2)
theorem fol_of {es : List EdD} (h : ∀ i (hi : i < es.length), ∀ k (hk : k < i), clash es[i] (es[k]'(by omega)) = false) : Fol es := by
  unfold Fol
  rw [List.pairwise_iff_getElem]
  intro i j hi hj hij
  rw [clash_comm]
  exact h j hj i hij
theorem foldB_true {g : GrD} (h : grB g = true) (hf : ∀ i (hi : i < g.2.2.length), ∀ k (hk : k < i), clash g.2.2[i] (g.2.2[k]'(by omega)) = false) : foldB g = true := by
  unfold foldB
  rw [h, decide_eq_true (fol_of hf)]
  rfl
theorem foldB_no {g : GrD} (h : grB g = false) : foldB g = false := by
  unfold foldB
  rw [h]
  rfl
theorem foldB_clash {g : GrD} {i k : Nat} (hi : i < g.2.2.length) (hk : k < i) (h : clash g.2.2[i] (g.2.2[k]'(by omega)) = true) : foldB g = false := by
  unfold foldB
  rw [decide_eq_false, Bool.and_false]
  intro hf
  unfold Fol at hf
  rw [List.pairwise_iff_getElem] at hf
  have := hf k i (by omega) hi hk
  rw [clash_comm, h] at this
  cases this
theorem foldB_parts {g : GrD} (h : foldB g = true) : grB g = true ∧ Fol g.2.2 := by
  unfold foldB at h
  simpa using h
set_option maxHeartbeats 2000000 in
theorem specIsFolded_any (v : Value) (g : GrD) (w : World) (h : ArgG w v g) :
    Calls Try.prog 63 #[v] w fun e w' => e = .returned (.bool (foldB g)) ∧ Below w.heap.size w w' := by
  have HG := Lib.hid h
  obtain ⟨s, rfl, _, _, ha⟩ := h
  have H := Lib.hid ha
  obtain ⟨A, cap, rfl, hcap, hm, _⟩ := ha
  unfold maxLen at hm
  go_enter Try.func63, Try.ntmps63
  go_wp2
  have hb : Below w.heap.size w (w.alloc (Obj.cells #[Value.int IntKind.i64 g.1, Value.int IntKind.i64 g.2.1, .slice A g.2.2.length cap] 56)) := (by repeat (first | exact Below.refl _ _ | (refine Below.setCell ?_ (by first | omega | (simp <;> omega)) _) | (refine bel_drewN ?_ _) | (refine Below.drew ?_) | (refine Below.alloc ?_ (by first | omega | (simp <;> omega)) _)))
  have k0 : (w.alloc (Obj.cells #[Value.int IntKind.i64 g.1, Value.int IntKind.i64 g.2.1, .slice A g.2.2.length cap] 56)).cell? ⟨w.heap.size, 0, none⟩ = some (.int .i64 g.1) := by simp [go_sem]
  have k1 : (w.alloc (Obj.cells #[Value.int IntKind.i64 g.1, Value.int IntKind.i64 g.2.1, .slice A g.2.2.length cap] 56)).cell? ⟨w.heap.size, 1, none⟩ = some (.int .i64 g.2.1) := by simp [go_sem]
  have k2 : (w.alloc (Obj.cells #[Value.int IntKind.i64 g.1, Value.int IntKind.i64 g.2.1, .slice A g.2.2.length cap] 56)).cell? ⟨w.heap.size, 2, none⟩ = some (.slice A g.2.2.length cap) := by simp [go_sem]
  have hs0 : w.heap.size < (w.alloc (Obj.cells #[Value.int IntKind.i64 g.1, Value.int IntKind.i64 g.2.1, .slice A g.2.2.length cap] 56)).heap.size := by simp
  generalize w.alloc (Obj.cells #[Value.int IntKind.i64 g.1, Value.int IntKind.i64 g.2.1, .slice A g.2.2.length cap] 56) = w1 at hb k0 k1 k2 hs0 ⊢
  have HB := Lib.hid hb
  have K0 := Lib.hid k0
  have K1 := Lib.hid k1
  have K2 := Lib.hid k2
  clear hb
  clear k0 k1 k2
  go_loopw [3] (fun i wo => ∃ k : Nat, k ≤ g.2.2.length ∧ i = .int .i64 k ∧ (0 < k → grB g = true) ∧ (∀ i (hi : i < g.2.2.length), i < k → ∀ j (hj : j < i), clash g.2.2[i] (g.2.2[j]'(by omega)) = false) ∧ Below w1.heap.size w1 wo) (fun i _ => g.2.2.length - (intOf i).toNat)
  case atStart => exact ⟨0, Nat.zero_le _, rfl, fun h => absurd h (by omega), fun i hi h => absurd h (by omega), Below.refl _ _⟩
  case round =>
    obtain ⟨k, hk, rfl, hg0, hall, hbel⟩ := hrel
    obtain ⟨wo, rfl⟩ : ∃ wo : World, wo = wr := ⟨_, rfl⟩
    have HA := Lib.hid hall
    have HG0 := Lib.hid hg0
    have HB2 := Lib.hid hbel
    have HB3 := Lib.hid (HB.out.trans (hbel.mono HB.out.size))
    have hsz := hbel.size
    have p0 := (hbel.cell (p := ⟨w.heap.size, 0, none⟩) hs0).trans K0.out
    have p1 := (hbel.cell (p := ⟨w.heap.size, 1, none⟩) hs0).trans K1.out
    have p2 := (hbel.cell (p := ⟨w.heap.size, 2, none⟩) hs0).trans K2.out
    have hws : w.heap.size < wo.heap.size := by omega
    clear hg0 hall hbel
    by_cases hlt : k < g.2.2.length
    · go_wp2_with fail
      refine (specIsGraph_any _ g _ (HG.out.below HB3.out)).mono ?_
      rintro e wp ⟨rfl, bp⟩
      have BP := Lib.hid bp
      have szp := bp.size
      replace p0 := (bp.cell (p := ⟨w.heap.size, 0, none⟩) hws).trans p0
      replace p1 := (bp.cell (p := ⟨w.heap.size, 1, none⟩) hws).trans p1
      replace p2 := (bp.cell (p := ⟨w.heap.size, 2, none⟩) hws).trans p2
      have HB4 := Lib.hid (HB3.out.trans (bp.mono (by omega)))
      have HB5 := Lib.hid (HB2.out.trans (bp.mono (by omega)))
      clear bp
      rcases e0 : grB g with _ | _
      · go_wp2_with fail
        refine (specIsGraph_any _ g _ (HG.out.below HB4.out)).mono ?_
        rintro e wz ⟨rfl, bz⟩
        have BZ := Lib.hid bz
        clear bz
        go_wp2
        go_ret
        exact ⟨ret_bool (by rw [foldB_no e0]), HB4.out.trans (BZ.out.mono (by omega))⟩
      go_wp2
      go_loopw [4] (fun j wr => ∃ m : Nat, m ≤ k ∧ j = .int .i64 m ∧ (∀ j (hj : j < k), j < m → clash g.2.2[k] (g.2.2[j]'(by omega)) = false) ∧ Below wp.heap.size wp wr) (fun j _ => k - (intOf j).toNat)
      case atStart => exact ⟨0, Nat.zero_le _, rfl, fun j hj h => absurd h (by omega), Below.refl _ _⟩
      case round =>
        obtain ⟨m, hm1, rfl, hin, hbi⟩ := hrel
        have HI := Lib.hid hin
        have HBI := Lib.hid hbi
        have szi := hbi.size
        replace p0 := (hbi.cell (p := ⟨w.heap.size, 0, none⟩) (show w.heap.size < wp.heap.size by omega)).trans p0
        replace p1 := (hbi.cell (p := ⟨w.heap.size, 1, none⟩) (show w.heap.size < wp.heap.size by omega)).trans p1
        replace p2 := (hbi.cell (p := ⟨w.heap.size, 2, none⟩) (show w.heap.size < wp.heap.size by omega)).trans p2
        have HB6 := Lib.hid (HB4.out.trans (hbi.mono (by omega)))
        have hwr : w.heap.size < wr.heap.size := by omega
        clear hin hbi
        by_cases hlt2 : m < k
        · obtain ⟨b, off, rfl, hbl, c0, c1, c2, _⟩ := (H.out.below HB6.out).at hlt
          obtain ⟨b2, off2, hA2, _, d0, d1, d2, _⟩ := (H.out.below HB6.out).at (k := m) (by omega)
          obtain ⟨rfl, rfl⟩ : b = b2 ∧ off = off2 := by simpa using hA2
          have i1 : (m : Int) < (g.2.2.length : Int) := by omega
          have CL : Hid (clash g.2.2[k] (g.2.2[m]'(by omega)) = true → foldB g = false) := Lib.hid (foldB_clash hlt hlt2)
          have CN : Hid (clash g.2.2[k] (g.2.2[m]'(by omega)) = false → ∀ j (hj : j < k), j < m + 1 → clash g.2.2[k] (g.2.2[j]'(by omega)) = false) := Lib.hid fun F j hj hjm => by
            rcases Nat.lt_or_eq_of_le (Nat.le_of_lt_succ hjm) with h | rfl
            · exact HI.out j hj h
            · exact F
          clear hA2
          generalize g.2.2[k] = x at *
          generalize g.2.2[m]'(by omega) = y at *
          have hC : Hid (clash x y = ((x.2.1 == y.2.1) && ((x.1 == y.1) || (x.2.2 == y.2.2)))) := Lib.hid rfl
          rcases t1 : (x.2.1 == y.2.1) with _ | _
          · have F := Lib.hid (CN.out (by rw [hC.out, t1]; rfl))
            go_wp2
            go_roundw
            case rel => exact ⟨m + 1, by omega, by go_num, F.out, (HBI.out.alloc (by omega) _).alloc (by simp; omega) _⟩
            case measure => simp [intOf]; omega
          rcases t2 : (x.1 == y.1) with _ | _
          · rcases t3 : (x.2.2 == y.2.2) with _ | _
            · have F := Lib.hid (CN.out (by rw [hC.out, t1, t2, t3]; rfl))
              go_wp2
              go_roundw
              case rel => exact ⟨m + 1, by omega, by go_num, F.out, (HBI.out.alloc (by omega) _).alloc (by simp; omega) _⟩
              case measure => simp [intOf]; omega
            · have F := Lib.hid (CL.out (by rw [hC.out, t1, t2, t3]; rfl))
              go_wp2
              go_ret
              exact ⟨ret_bool F.out.symm, (HB6.out.alloc (by omega) _).alloc (by simp; omega) _⟩
          · have F := Lib.hid (CL.out (by rw [hC.out, t1, t2]; rfl))
            go_wp2
            go_ret
            exact ⟨ret_bool F.out.symm, (HB6.out.alloc (by omega) _).alloc (by simp; omega) _⟩
        · obtain rfl : m = k := by omega
          go_wp2
          go_roundw
          case rel => exact ⟨m + 1, by omega, by go_num, fun _ => e0, fun i hi him j hj => by
            rcases Nat.lt_or_eq_of_le (Nat.le_of_lt_succ him) with h | rfl
            · exact HA.out i hi h j hj
            · exact HI.out j hj hj, HB5.out.trans (HBI.out.mono (by omega))⟩
          case measure => simp [intOf]; omega
    · obtain rfl : k = g.2.2.length := by omega
      go_wp2_with fail
      refine (specIsGraph_any _ g _ (HG.out.below HB3.out)).mono ?_
      rintro e wz ⟨rfl, bz⟩
      have BZ := Lib.hid bz
      have F : Hid (grB g = foldB g) := Lib.hid (by
        rcases e0 : grB g with _ | _
        · exact (foldB_no e0).symm
        · exact (foldB_true e0 fun i hi j hj => HA.out i hi hi j hj).symm)
      clear bz
      go_wp2
      go_ret
      exact ⟨ret_bool F.out, HB3.out.trans (BZ.out.mono (by omega))⟩
end Go.Proofs.Ytgoghkboklehnaa
