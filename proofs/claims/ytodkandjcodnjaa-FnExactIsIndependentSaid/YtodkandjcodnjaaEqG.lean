/- EqualGraphs of the reference and of the program; IsListed. -/
import Derived.Test.YtodkandjcodnjaaGr
import Derived.Laws.StructEq
namespace Go.Proofs.Ytodkandjcodnjaa
set_option maxRecDepth 20000
set_option linter.unusedVariables false
set_option linter.unusedSimpArgs false
open Go.RowKit

def edV (e : EdD) : Value := .agg #[.int .i64 e.1, .int .i64 e.2.1, .int .i64 e.2.2]
theorem edge_eqIn (a b : EdD) (w : World) : (Op.equalIn 10000 62 (edV a) (edV b)).run Try.prog w = .ok (decide (a = b)) w := by
  have u3 := Try.underlying3
  have a3 := Try.isAgg3
  have z3 := Try.sizeOf3
  have hS : Try.prog.underlying 62 = some (.struct (Try.prog.fieldsOf 62)) := by kernel_rfl
  have hp : Try.prog.stoodInHeld 62 = false := by kernel_rfl
  obtain ⟨x, y, z⟩ := a
  obtain ⟨x', y', z'⟩ := b
  simp only [edV]
  rw [show (10000 : Nat) = 9999 + 1 from rfl, run_equalIn_agg w 9999 62 _ _ hS hp]
  simp only [Program.fieldsOf, Try.underlying62]
  go_simp
  by_cases h1 : x = x' <;> by_cases h2 : y = y' <;> by_cases h3 : z = z' <;> simp [h1, h2, h3]
theorem edge_neq (a b : EdD) (w : World) : (binOp .neq 62 (edV a) (edV b)).run Try.prog w = .ok (.bool (!decide (a = b))) w := by
  have := edge_eqIn a b w
  unfold edV at this ⊢
  rw [run_neq_struct, this]
  rfl
theorem edge_eql (a b : EdD) (w : World) : (binOp .eql 62 (edV a) (edV b)).run Try.prog w = .ok (.bool (decide (a = b))) w := by
  have := edge_eqIn a b w
  unfold edV at this ⊢
  rw [run_eql_struct, this]
  rfl
theorem edge_guard : Try.prog.eqGuardType Try.prog.depth 62 = false := by kernel_rfl
set_option maxHeartbeats 1000000 in
theorem specEqualGraphs_any (v u : Value) (d d' : GrD) (w : World) (h : ArgG w v d) (h' : ArgG w u d') :
    Calls Try.prog 51 #[v, u] w fun e w' => e = .returned (.bool (decide (d = d'))) ∧ Below w.heap.size w w' := by
  obtain ⟨s, rfl, _, _, ha⟩ := h
  obtain ⟨s', rfl, _, _, ha'⟩ := h'
  obtain ⟨x, y, es⟩ := d
  obtain ⟨x', y', es'⟩ := d'
  have H := Lib.hid ha
  have H' := Lib.hid ha'
  obtain ⟨A, cap, rfl, hcap, hm, _⟩ := ha
  obtain ⟨A', cap', rfl, hcap', hm', _⟩ := ha'
  unfold maxLen at hm hm'
  rcases e1 : (x != x') with _ | _
  · rcases e2 : (y != y') with _ | _
    · by_cases hne : es.length = es'.length
      · have F : Hid (decide ((x, y, es) = (x', y', es')) = decide (es = es')) := Lib.hid (by simp at e1 e2; simp [e1, e2])
        have hd : ((es.length : Int) != (es'.length : Int)) = false := by simp [hne]
        have HNE := Lib.hid hne
        clear hne
        go_enter Try.func51, Try.ntmps51
        go_wp2
        have hb : Below w.heap.size w ((w.alloc (Obj.cells #[Value.int IntKind.i64 x, Value.int IntKind.i64 y, .slice A es.length cap] 36)).alloc (Obj.cells #[Value.int IntKind.i64 x', Value.int IntKind.i64 y', .slice A' es'.length cap'] 36)) := (by repeat (first | exact Below.refl _ _ | (refine Below.setCell ?_ (by first | omega | (simp <;> omega)) _) | (refine bel_drewN ?_ _) | (refine Below.drew ?_) | (refine Below.alloc ?_ (by first | omega | (simp <;> omega)) _)))
        have q0 : ((w.alloc (Obj.cells #[Value.int IntKind.i64 x, Value.int IntKind.i64 y, .slice A es.length cap] 36)).alloc (Obj.cells #[Value.int IntKind.i64 x', Value.int IntKind.i64 y', .slice A' es'.length cap'] 36)).cell? ⟨w.heap.size, 2, none⟩ = some (.slice A es.length cap) := by simp [go_sem]
        have q1 : ((w.alloc (Obj.cells #[Value.int IntKind.i64 x, Value.int IntKind.i64 y, .slice A es.length cap] 36)).alloc (Obj.cells #[Value.int IntKind.i64 x', Value.int IntKind.i64 y', .slice A' es'.length cap'] 36)).cell? ⟨w.heap.size + 1, 2, none⟩ = some (.slice A' es'.length cap') := by simp [go_sem]
        generalize (w.alloc (Obj.cells #[Value.int IntKind.i64 x, Value.int IntKind.i64 y, .slice A es.length cap] 36)).alloc (Obj.cells #[Value.int IntKind.i64 x', Value.int IntKind.i64 y', .slice A' es'.length cap'] 36) = w2 at hb q0 q1 ⊢
        have HB := Lib.hid hb
        clear hb
        go_loopw [5] (fun i wr => ∃ k : Nat, k ≤ es.length ∧ i = .int .i64 k ∧ es.take k = es'.take k ∧ ∃ n, wr = w2.drewN n) (fun i _ => es.length - (intOf i).toNat)
        case atStart => exact ⟨0, Nat.zero_le _, rfl, by simp, 0, rfl⟩
        case round =>
          obtain ⟨k, hk, rfl, heq, n, rfl⟩ := hrel
          have HEQ := Lib.hid heq
          clear heq
          by_cases hlt : k < es.length
          · have hlt' : k < es'.length := by have := HNE.out; omega
            obtain ⟨g, off, rfl, hg, c0, c1, c2, _⟩ := (H.out.below HB.out).at hlt
            obtain ⟨g', off', rfl, hg', c0', c1', c2', _⟩ := (H'.out.below HB.out).at hlt'
            have HQ : Hid (es.take (k + 1) = es'.take (k + 1) ↔ es[k] = es'[k]) := Lib.hid ⟨fun e => by
              have := congrArg (fun l => l[k]?) e
              simpa [hlt, hlt'] using this, fun e => take_eq_succ HEQ.out hlt hlt' e⟩
            have HN : Hid (es[k] ≠ es'[k] → es ≠ es') := Lib.hid (fun e1 e2 => by subst e2; exact e1 rfl)
            generalize es[k] = d at *
            generalize es'[k] = d' at *
            have hneq := fun w => edge_neq d d' w
            have hgd := edge_guard
            unfold edV at hneq
            rcases e3 : decide (d = d') with _ | _
            · rw [e3] at hneq
              go_wp2
              go_quiet (fail)
              go_wp2
              go_ret
              exact ⟨ret_bool (by rw [F.out]; symm; rw [decide_eq_false_iff_not]; exact HN.out (by simpa using e3)), bel_drewN (bel_drewN HB.out _) _⟩
            · rw [e3] at hneq
              go_wp2
              go_quiet (fail)
              go_wp2
              go_roundw
              case rel => exact ⟨k + 1, by omega, by go_num, HQ.out.2 (by simpa using e3), _, rfl⟩
              case measure => simp [intOf]; omega
          · obtain rfl : k = es.length := by omega
            go_wp2
            go_ret
            refine ⟨ret_bool ?_, bel_drewN HB.out _⟩
            have h1 := HEQ.out
            rw [List.take_length, HNE.out, List.take_length] at h1
            rw [F.out]
            simp [h1]
      · have hd : ((es.length : Int) != (es'.length : Int)) = true := by simp; omega
        go_enter Try.func51, Try.ntmps51
        go_wp2
        go_ret
        have F : es ≠ es' := fun e => hne (by rw [e])
        exact ⟨ret_bool (by simp [F]), (by repeat (first | exact Below.refl _ _ | (refine Below.setCell ?_ (by first | omega | (simp <;> omega)) _) | (refine bel_drewN ?_ _) | (refine Below.drew ?_) | (refine Below.alloc ?_ (by first | omega | (simp <;> omega)) _)))⟩
    · go_enter Try.func51, Try.ntmps51
      go_wp2
      go_ret
      exact ⟨ret_bool (by simp at e2; simp [e2]), (by repeat (first | exact Below.refl _ _ | (refine Below.setCell ?_ (by first | omega | (simp <;> omega)) _) | (refine bel_drewN ?_ _) | (refine Below.drew ?_) | (refine Below.alloc ?_ (by first | omega | (simp <;> omega)) _)))⟩
  · go_enter Try.func51, Try.ntmps51
    go_wp2
    go_ret
    exact ⟨ret_bool (by simp at e1; simp [e1]), (by repeat (first | exact Below.refl _ _ | (refine Below.setCell ?_ (by first | omega | (simp <;> omega)) _) | (refine bel_drewN ?_ _) | (refine Below.drew ?_) | (refine Below.alloc ?_ (by first | omega | (simp <;> omega)) _)))⟩
set_option maxHeartbeats 1000000 in
theorem slicesEqualE_any (v u : Value) (es es' : List EdD) (w : World) (h : ArgE w v es) (h' : ArgE w u es') :
    Calls Try.prog 58 #[v, u] w fun e w' => e = .returned (.bool (decide (es = es'))) ∧ ∃ n, w' = w.drewN n := by
  have H := Lib.hid h
  have H' := Lib.hid h'
  obtain ⟨A, cap, rfl, hcap, hm, _⟩ := h
  obtain ⟨A', cap', rfl, hcap', hm', _⟩ := h'
  unfold maxLen at hm hm'
  by_cases hne : es.length = es'.length
  · have hd : ((es.length : Int) != (es'.length : Int)) = false := by simp [hne]
    have HNE := Lib.hid hne
    clear hne
    go_enter Try.func58, Try.ntmps58
    go_wp2
    go_loopw [13] (fun i wr => ∃ k : Nat, k ≤ es.length ∧ i = .int .i64 k ∧ es.take k = es'.take k ∧ ∃ n, wr = w.drewN n) (fun i _ => es.length - (intOf i).toNat)
    case atStart => exact ⟨0, Nat.zero_le _, rfl, by simp, 0, rfl⟩
    case round =>
      obtain ⟨k, hk, rfl, heq, n, rfl⟩ := hrel
      have HEQ := Lib.hid heq
      clear heq
      by_cases hlt : k < es.length
      · have hlt' : k < es'.length := by have := HNE.out; omega
        obtain ⟨g, off, rfl, hg, c0, c1, c2, _⟩ := H.out.at hlt
        obtain ⟨g', off', rfl, hg', c0', c1', c2', _⟩ := H'.out.at hlt'
        have HQ : Hid (es.take (k + 1) = es'.take (k + 1) ↔ es[k] = es'[k]) := Lib.hid ⟨fun e => by
          have := congrArg (fun l => l[k]?) e
          simpa [hlt, hlt'] using this, fun e => take_eq_succ HEQ.out hlt hlt' e⟩
        have HN : Hid (es[k] ≠ es'[k] → es ≠ es') := Lib.hid (fun e1 e2 => by subst e2; exact e1 rfl)
        generalize es[k] = d at *
        generalize es'[k] = d' at *
        have hneq := fun w => edge_neq d d' w
        have hgd := edge_guard
        unfold edV at hneq
        rcases e3 : decide (d = d') with _ | _
        · rw [e3] at hneq
          go_wp2
          go_quiet (fail)
          go_wp2
          go_ret
          exact ⟨ret_bool (by symm; rw [decide_eq_false_iff_not]; exact HN.out (by simpa using e3)), _, World.drewN_drewN _ _ _⟩
        · rw [e3] at hneq
          go_wp2
          go_quiet (fail)
          go_wp2
          go_roundw
          case rel => exact ⟨k + 1, by omega, by go_num, HQ.out.2 (by simpa using e3), _, rfl⟩
          case measure => simp [intOf]; omega
      · obtain rfl : k = es.length := by omega
        go_wp2
        go_ret
        refine ⟨ret_bool ?_, n, rfl⟩
        have h1 := HEQ.out
        rw [List.take_length, HNE.out, List.take_length] at h1
        simp [h1]
  · have hd : ((es.length : Int) != (es'.length : Int)) = true := by simp; omega
    go_enter Try.func58, Try.ntmps58
    go_wp2
    go_ret
    exact ⟨ret_bool (by symm; rw [decide_eq_false_iff_not]; rintro rfl; exact hne rfl), 0, rfl⟩
set_option maxHeartbeats 1000000 in
theorem implEqualGraphs_any (v u : Value) (d d' : GrD) (w : World) (h : ArgG w v d) (h' : ArgG w u d') :
    Calls Try.prog 42 #[v, u] w fun e w' => e = .returned (.bool (decide (d = d'))) ∧ Below w.heap.size w w' := by
  obtain ⟨s, rfl, _, _, ha⟩ := h
  obtain ⟨s', rfl, _, _, ha'⟩ := h'
  obtain ⟨x, y, es⟩ := d
  obtain ⟨x', y', es'⟩ := d'
  have H := Lib.hid ha
  have H' := Lib.hid ha'
  clear ha ha'
  rcases e1 : (x == x') with _ | _
  · go_enter Try.func42, Try.ntmps42
    go_wp2
    go_ret
    exact ⟨ret_bool (by simp at e1; simp [e1]), (by repeat (first | exact Below.refl _ _ | (refine Below.setCell ?_ (by first | omega | (simp <;> omega)) _) | (refine bel_drewN ?_ _) | (refine Below.drew ?_) | (refine Below.alloc ?_ (by first | omega | (simp <;> omega)) _)))⟩
  · rcases e2 : (y == y') with _ | _
    · go_enter Try.func42, Try.ntmps42
      go_wp2
      go_ret
      exact ⟨ret_bool (by simp at e2; simp [e2]), (by repeat (first | exact Below.refl _ _ | (refine Below.setCell ?_ (by first | omega | (simp <;> omega)) _) | (refine bel_drewN ?_ _) | (refine Below.drew ?_) | (refine Below.alloc ?_ (by first | omega | (simp <;> omega)) _)))⟩
    · have F : Hid (decide ((x, y, es) = (x', y', es')) = decide (es = es')) := Lib.hid (by simp at e1 e2; simp [e1, e2])
      go_enter Try.func42, Try.ntmps42
      go_wp2_with fail
      have hb : Below w.heap.size w ((w.alloc (Obj.cells #[Value.int IntKind.i64 x, Value.int IntKind.i64 y, s] 36)).alloc (Obj.cells #[Value.int IntKind.i64 x', Value.int IntKind.i64 y', s'] 36)) := (by repeat (first | exact Below.refl _ _ | (refine Below.setCell ?_ (by first | omega | (simp <;> omega)) _) | (refine bel_drewN ?_ _) | (refine Below.drew ?_) | (refine Below.alloc ?_ (by first | omega | (simp <;> omega)) _)))
      refine (slicesEqualE_any _ _ es es' _ (H.out.below hb) (H'.out.below hb)).mono ?_
      rintro e w1 ⟨rfl, n, rfl⟩
      have HB := Lib.hid hb
      clear hb
      go_wp2
      go_ret
      exact ⟨ret_bool F.out.symm, bel_drewN HB.out _⟩
end Go.Proofs.Ytodkandjcodnjaa
