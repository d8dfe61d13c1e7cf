/- IsListed of the reference and of the program. -/
import Derived.Test.YtgifhaadfmomcaaGreatGrA
import Derived.Test.YtgifhaadfmomcaaGreatGrS
namespace Go.Proofs.YtgifhaadfmomcaaGreat
set_option maxRecDepth 20000
set_option linter.unusedVariables false
set_option linter.unusedSimpArgs false
open Go.RowKit

def inG (ds : List GrD) (d : GrD) : Bool := decide (d ∈ ds)
theorem inG_false {ds : List GrD} {d : GrD} (h : ∀ j (hj : j < ds.length), ds[j] ≠ d) : inG ds d = false := by
  unfold inG
  rw [decide_eq_false_iff_not]
  intro hm
  obtain ⟨j, hj, e⟩ := List.getElem_of_mem hm
  exact h j hj e
theorem inG_true {ds : List GrD} {d : GrD} (j : Nat) (hj : j < ds.length) (h : ds[j] = d) : inG ds d = true := by
  unfold inG
  rw [decide_eq_true_eq, ← h]
  exact List.getElem_mem hj
set_option maxHeartbeats 1000000 in
theorem specIsListed_any (v u : Value) (ds : List GrD) (d : GrD) (w : World) (h : ArgGS w v ds) (h' : ArgG w u d) :
    Calls Tryz.prog 23 #[v, u] w fun e w' => e = .returned (.bool (inG ds d)) ∧ Below w.heap.size w w' := by
  have H := Lib.hid h
  have H' := Lib.hid h'
  obtain ⟨A, cap, rfl, hcap, hm, _⟩ := h
  unfold maxLen at hm
  obtain ⟨s, rfl, _⟩ := h'
  go_enter Tryz.func23, Tryz.ntmps23
  go_wp2
  have hb : Below w.heap.size w (w.alloc (Obj.cells #[Value.int IntKind.i64 d.1, Value.int IntKind.i64 d.2.1, s] 30)) := (by repeat (first | exact Below.refl _ _ | (refine Below.setCell ?_ (by first | omega | (simp <;> omega)) _) | (refine bel_drewN ?_ _) | (refine Below.drew ?_) | (refine Below.alloc ?_ (by first | omega | (simp <;> omega)) _)))
  have q0 : (w.alloc (Obj.cells #[Value.int IntKind.i64 d.1, Value.int IntKind.i64 d.2.1, s] 30)).cell? ⟨w.heap.size, 0, none⟩ = some (.int .i64 d.1) := by simp [go_sem]
  have q1 : (w.alloc (Obj.cells #[Value.int IntKind.i64 d.1, Value.int IntKind.i64 d.2.1, s] 30)).cell? ⟨w.heap.size, 1, none⟩ = some (.int .i64 d.2.1) := by simp [go_sem]
  have q2 : (w.alloc (Obj.cells #[Value.int IntKind.i64 d.1, Value.int IntKind.i64 d.2.1, s] 30)).cell? ⟨w.heap.size, 2, none⟩ = some s := by simp [go_sem]
  have hs2 : w.heap.size < (w.alloc (Obj.cells #[Value.int IntKind.i64 d.1, Value.int IntKind.i64 d.2.1, s] 30)).heap.size := by simp
  generalize w.alloc (Obj.cells #[Value.int IntKind.i64 d.1, Value.int IntKind.i64 d.2.1, s] 30) = w2 at hb q0 q1 q2 hs2 ⊢
  have HB := Lib.hid hb
  have Q0 := Lib.hid q0
  have Q1 := Lib.hid q1
  have Q2 := Lib.hid q2
  clear hb q0 q1 q2
  go_loopw [5] (fun i wr => ∃ k : Nat, k ≤ ds.length ∧ i = .int .i64 k ∧ (∀ j (hj : j < ds.length), j < k → ds[j] ≠ d) ∧ Below w2.heap.size w2 wr) (fun i _ => ds.length - (intOf i).toNat)
  case atStart => exact ⟨0, Nat.zero_le _, rfl, fun j hj h => absurd h (by omega), Below.refl _ _⟩
  case round =>
    obtain ⟨k, hk, rfl, hall, hbel⟩ := hrel
    have HA := Lib.hid hall
    have HB2 := Lib.hid hbel
    have HB3 := Lib.hid (HB.out.trans (hbel.mono HB.out.size))
    have hsz := hbel.size
    by_cases hlt : k < ds.length
    · obtain ⟨g, off, s', rfl, hg, c0, c1, c2, ha⟩ := (H.out.below HB3.out).at hlt
      have X1 := Lib.hid ha
      have X2 := Lib.hid (H'.out.below HB3.out)
      have HT : Hid (ds[k] = d → inG ds d = true) := Lib.hid (inG_true k hlt)
      have HF : Hid (ds[k] ≠ d → ∀ j (hj : j < ds.length), j < k + 1 → ds[j] ≠ d) := Lib.hid fun F j hj hjk => by
        rcases Nat.lt_or_eq_of_le (Nat.le_of_lt_succ hjk) with h | rfl
        · exact HA.out j hj h
        · exact F
      have p0 := (hbel.cell (p := ⟨w.heap.size, 0, none⟩) hs2).trans Q0.out
      have p1 := (hbel.cell (p := ⟨w.heap.size, 1, none⟩) hs2).trans Q1.out
      have p2 := (hbel.cell (p := ⟨w.heap.size, 2, none⟩) hs2).trans Q2.out
      have hws : w.heap.size < wr.heap.size := by omega
      clear ha hall hbel
      generalize ds[k] = x at *
      go_wp2_with fail
      go_region_held3 (fun w' => w'.cell? ⟨g, off + k * 3, none⟩ = some (.int .i64 x.1) ∧ w'.cell? ⟨g, off + k * 3 + 1, none⟩ = some (.int .i64 x.2.1) ∧ w'.cell? ⟨g, off + k * 3 + 2, none⟩ = some s' ∧ w'.cell? ⟨w.heap.size, 0, none⟩ = some (.int .i64 d.1) ∧ w'.cell? ⟨w.heap.size, 1, none⟩ = some (.int .i64 d.2.1) ∧ w'.cell? ⟨w.heap.size, 2, none⟩ = some s)
        (first | go_keep | exact ⟨q0, q1, q2, q3, q4, q5⟩)
        ((go_at_call 36; refine (specEqualGraphs_any _ _ x d _ (X1.out.below (Below.refl _ _).drew) (X2.out.below (Below.refl _ _).drew)).mono ?_; rintro e w9 ⟨rfl, b9⟩; have B9 := Lib.hid b9; have q0 := (b9.cell (p := ⟨g, off + k * 3, none⟩) hg).trans c0; have q1 := (b9.cell (p := ⟨g, off + k * 3 + 1, none⟩) hg).trans c1; have q2 := (b9.cell (p := ⟨g, off + k * 3 + 2, none⟩) hg).trans c2; have q3 := (b9.cell (p := ⟨w.heap.size, 0, none⟩) hws).trans p0; have q4 := (b9.cell (p := ⟨w.heap.size, 1, none⟩) hws).trans p1; have q5 := (b9.cell (p := ⟨w.heap.size, 2, none⟩) hws).trans p2; clear b9))
      rcases e2 : decide (x = d) with _ | _
      · go_wp2
        go_roundw
        case rel => exact ⟨k + 1, by omega, by go_num, HF.out (by simpa using e2), HB2.out.trans ((Below.refl _ _).drew.trans (B9.out.mono hsz))⟩
        case measure => simp [intOf]; omega
      · go_wp2
        go_ret
        exact ⟨ret_bool (HT.out (by simpa using e2)).symm, HB3.out.trans ((Below.refl _ _).drew.trans (B9.out.mono (show w.heap.size ≤ wr.heap.size by omega)))⟩
    · obtain rfl : k = ds.length := by omega
      have F := Lib.hid (inG_false (d := d) fun j hj => HA.out j hj hj)
      clear hall hbel
      go_wp2
      go_ret
      exact ⟨ret_bool F.out.symm, HB3.out⟩
set_option maxHeartbeats 1000000 in
theorem implIsListed_any (v u : Value) (ds : List GrD) (d : GrD) (w : World) (h : ArgGS w v ds) (h' : ArgG w u d) :
    Calls Tryz.prog 28 #[v, u] w fun e w' => e = .returned (.bool (inG ds d)) ∧ Below w.heap.size w w' := by
  have H := Lib.hid h
  have H' := Lib.hid h'
  obtain ⟨A, cap, rfl, hcap, hm, _⟩ := h
  unfold maxLen at hm
  obtain ⟨s, rfl, _⟩ := h'
  go_enter Tryz.func28, Tryz.ntmps28
  go_wp2
  have hb : Below w.heap.size w (w.alloc (Obj.cells #[Value.int IntKind.i64 d.1, Value.int IntKind.i64 d.2.1, s] 30)) := (by repeat (first | exact Below.refl _ _ | (refine Below.setCell ?_ (by first | omega | (simp <;> omega)) _) | (refine bel_drewN ?_ _) | (refine Below.drew ?_) | (refine Below.alloc ?_ (by first | omega | (simp <;> omega)) _)))
  have q0 : (w.alloc (Obj.cells #[Value.int IntKind.i64 d.1, Value.int IntKind.i64 d.2.1, s] 30)).cell? ⟨w.heap.size, 0, none⟩ = some (.int .i64 d.1) := by simp [go_sem]
  have q1 : (w.alloc (Obj.cells #[Value.int IntKind.i64 d.1, Value.int IntKind.i64 d.2.1, s] 30)).cell? ⟨w.heap.size, 1, none⟩ = some (.int .i64 d.2.1) := by simp [go_sem]
  have q2 : (w.alloc (Obj.cells #[Value.int IntKind.i64 d.1, Value.int IntKind.i64 d.2.1, s] 30)).cell? ⟨w.heap.size, 2, none⟩ = some s := by simp [go_sem]
  have hs2 : w.heap.size < (w.alloc (Obj.cells #[Value.int IntKind.i64 d.1, Value.int IntKind.i64 d.2.1, s] 30)).heap.size := by simp
  generalize w.alloc (Obj.cells #[Value.int IntKind.i64 d.1, Value.int IntKind.i64 d.2.1, s] 30) = w2 at hb q0 q1 q2 hs2 ⊢
  have HB := Lib.hid hb
  have Q0 := Lib.hid q0
  have Q1 := Lib.hid q1
  have Q2 := Lib.hid q2
  clear hb q0 q1 q2
  go_loopw [9] (fun i wr => ∃ k : Nat, k ≤ ds.length ∧ i = .int .i64 k ∧ (∀ j (hj : j < ds.length), j < k → ds[j] ≠ d) ∧ Below w2.heap.size w2 wr) (fun i _ => ds.length - (intOf i).toNat)
  case atStart => exact ⟨0, Nat.zero_le _, rfl, fun j hj h => absurd h (by omega), Below.refl _ _⟩
  case round =>
    obtain ⟨k, hk, rfl, hall, hbel⟩ := hrel
    have HA := Lib.hid hall
    have HB2 := Lib.hid hbel
    have HB3 := Lib.hid (HB.out.trans (hbel.mono HB.out.size))
    have hsz := hbel.size
    by_cases hlt : k < ds.length
    · obtain ⟨g, off, s', rfl, hg, c0, c1, c2, ha⟩ := (H.out.below HB3.out).at hlt
      have X1 := Lib.hid ha
      have X2 := Lib.hid (H'.out.below HB3.out)
      have HT : Hid (ds[k] = d → inG ds d = true) := Lib.hid (inG_true k hlt)
      have HF : Hid (ds[k] ≠ d → ∀ j (hj : j < ds.length), j < k + 1 → ds[j] ≠ d) := Lib.hid fun F j hj hjk => by
        rcases Nat.lt_or_eq_of_le (Nat.le_of_lt_succ hjk) with h | rfl
        · exact HA.out j hj h
        · exact F
      have p0 := (hbel.cell (p := ⟨w.heap.size, 0, none⟩) hs2).trans Q0.out
      have p1 := (hbel.cell (p := ⟨w.heap.size, 1, none⟩) hs2).trans Q1.out
      have p2 := (hbel.cell (p := ⟨w.heap.size, 2, none⟩) hs2).trans Q2.out
      have hws : w.heap.size < wr.heap.size := by omega
      clear ha hall hbel
      generalize ds[k] = x at *
      obtain ⟨A3, c3, rfl, _⟩ := X1.out.inner
      obtain ⟨A4, c4, rfl, _⟩ := X2.out.inner
      go_wp2_with fail
      refine (implEqualGraphs_any _ _ x d _ (X1.out.below ((Below.refl _ _).alloc (Nat.le_refl _) _)) (X2.out.below ((Below.refl _ _).alloc (Nat.le_refl _) _))).mono ?_
      rintro e w9 ⟨rfl, b9⟩
      have B9 : Hid (Below wr.heap.size wr w9) := Lib.hid (((Below.refl _ _).alloc (Nat.le_refl _) _).trans (b9.mono (by simp)))
      clear b9
      rcases e2 : decide (x = d) with _ | _
      · go_wp2
        go_roundw
        case rel => exact ⟨k + 1, by omega, by go_num, HF.out (by simpa using e2), HB2.out.trans (B9.out.mono hsz)⟩
        case measure => simp [intOf]; omega
      · go_wp2
        go_ret
        exact ⟨ret_bool (HT.out (by simpa using e2)).symm, HB3.out.trans (B9.out.mono (by omega))⟩
    · obtain rfl : k = ds.length := by omega
      have F := Lib.hid (inG_false (d := d) fun j hj => HA.out j hj hj)
      clear hall hbel
      go_wp2
      go_ret
      exact ⟨ret_bool F.out.symm, HB3.out⟩
end Go.Proofs.YtgifhaadfmomcaaGreat
