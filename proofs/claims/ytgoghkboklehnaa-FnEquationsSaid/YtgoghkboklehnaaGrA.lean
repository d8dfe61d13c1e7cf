/- Edges compared; which graphs are valid, of the reference and of the program. EqualGraphs of the reference and of the program; IsListed. -/
import Derived.Test.YtgoghkboklehnaaGr
import Derived.Laws.StructEq
import Derived.Test.YtgoghkboklehnaaCmp
namespace Go.Proofs.Ytgoghkboklehnaa
set_option maxRecDepth 20000
set_option linter.unusedVariables false
set_option linter.unusedSimpArgs false
open Go.RowKit

def edV (e : EdD) : Value := .agg #[.int .i64 e.1, .int .i64 e.2.1, .int .i64 e.2.2]
theorem edge_eqIn (a b : EdD) (w : World) : (Op.equalIn 10000 79 (edV a) (edV b)).run Try.prog w = .ok (decide (a = b)) w := by
  have u3 := Try.underlying3
  have a3 := Try.isAgg3
  have z3 := Try.sizeOf3
  have hS : Try.prog.underlying 79 = some (.struct (Try.prog.fieldsOf 79)) := by kernel_rfl
  have hp : Try.prog.stoodInHeld 79 = false := by kernel_rfl
  obtain ⟨x, y, z⟩ := a
  obtain ⟨x', y', z'⟩ := b
  simp only [edV]
  rw [show (10000 : Nat) = 9999 + 1 from rfl, run_equalIn_agg w 9999 79 _ _ hS hp]
  simp only [Program.fieldsOf, Try.underlying79]
  go_simp
  by_cases h1 : x = x' <;> by_cases h2 : y = y' <;> by_cases h3 : z = z' <;> simp [h1, h2, h3]
theorem edge_neq (a b : EdD) (w : World) : (binOp .neq 79 (edV a) (edV b)).run Try.prog w = .ok (.bool (!decide (a = b))) w := by
  have := edge_eqIn a b w
  unfold edV at this ⊢
  rw [run_neq_struct, this]
  rfl
theorem edge_eql (a b : EdD) (w : World) : (binOp .eql 79 (edV a) (edV b)).run Try.prog w = .ok (.bool (decide (a = b))) w := by
  have := edge_eqIn a b w
  unfold edV at this ⊢
  rw [run_eql_struct, this]
  rfl
theorem edge_guard : Try.prog.eqGuardType Try.prog.depth 79 = false := by kernel_rfl
def cmpE (a b : EdD) : Int := if cmpI a.1 b.1 ≠ 0 then cmpI a.1 b.1 else if cmpI a.2.1 b.2.1 ≠ 0 then cmpI a.2.1 b.2.1 else cmpI a.2.2 b.2.2
theorem cmpI_range (a b : Int) : cmpI a b = -1 ∨ cmpI a b = 0 ∨ cmpI a b = 1 := by
  unfold cmpI; split
  · exact .inl rfl
  · split
    · exact .inr (.inr rfl)
    · exact .inr (.inl rfl)
theorem cmpI_zero {a b : Int} : cmpI a b = 0 ↔ a = b := by
  unfold cmpI; split
  · constructor
    · intro h; cases h
    · omega
  · split
    · constructor
      · intro h; cases h
      · omega
    · constructor
      · omega
      · intro _; rfl
theorem cmpE_range (a b : EdD) : cmpE a b = -1 ∨ cmpE a b = 0 ∨ cmpE a b = 1 := by
  unfold cmpE; split
  · exact cmpI_range _ _
  · split
    · exact cmpI_range _ _
    · exact cmpI_range _ _
def nth3 (x y z : Int) : Nat → Int
  | 0 => x
  | 1 => y
  | _ => z
theorem cmpE_first (x y z x' y' z' : Int) (k : Nat) (hk : k < 3) (h : ∀ j, j < k → nth3 x y z j = nth3 x' y' z' j) : (nth3 x y z k < nth3 x' y' z' k → cmpE (x, y, z) (x', y', z') = -1) ∧ (nth3 x' y' z' k < nth3 x y z k → cmpE (x, y, z) (x', y', z') = 1) := by
  match k, hk with
  | 0, _ =>
    simp only [nth3]
    refine ⟨fun h => ?_, fun h => ?_⟩
    · have : cmpI x x' = -1 := by unfold cmpI; rw [if_pos h]
      simp [cmpE, this]
    · have : cmpI x x' = 1 := by unfold cmpI; rw [if_neg (by omega), if_pos h]
      simp [cmpE, this]
  | 1, _ =>
    have h0 : x = x' := h 0 (by omega)
    simp only [nth3]
    refine ⟨fun h => ?_, fun h => ?_⟩
    · have : cmpI y y' = -1 := by unfold cmpI; rw [if_pos h]
      simp [cmpE, this, cmpI_zero.2 h0]
    · have : cmpI y y' = 1 := by unfold cmpI; rw [if_neg (by omega), if_pos h]
      simp [cmpE, this, cmpI_zero.2 h0]
  | 2, _ =>
    have h0 : x = x' := h 0 (by omega)
    have h1 : y = y' := h 1 (by omega)
    simp only [nth3]
    refine ⟨fun h => ?_, fun h => ?_⟩
    · have : cmpI z z' = -1 := by unfold cmpI; rw [if_pos h]
      simp [cmpE, this, cmpI_zero.2 h0, cmpI_zero.2 h1]
    · have : cmpI z z' = 1 := by unfold cmpI; rw [if_neg (by omega), if_pos h]
      simp [cmpE, this, cmpI_zero.2 h0, cmpI_zero.2 h1]
theorem cmpE_same (x y z x' y' z' : Int) (h : ∀ j, j < 3 → nth3 x y z j = nth3 x' y' z' j) : cmpE (x, y, z) (x', y', z') = 0 := by
  have h0 : x = x' := h 0 (by omega)
  have h1 : y = y' := h 1 (by omega)
  have h2 : z = z' := h 2 (by omega)
  simp [cmpE, cmpI_zero.2 h0, cmpI_zero.2 h1, cmpI_zero.2 h2]
/-- What an edge must be; what a graph must be. -/
def edgeOk (r n : Int) (e : EdD) : Bool := inB e.1 0 (wrap64 (n - 1)) && inB e.2.2 0 (wrap64 (n - 1)) && inB e.2.1 1 r
def okE (g : GrD) (k : Nat) : Bool := match g.2.2[k]? with
  | none => true
  | some e => edgeOk g.1 g.2.1 e && (match k with
    | 0 => true
    | j + 1 => match g.2.2[j]? with
      | none => true
      | some d => decide (cmpE d e < 0))
def grB (g : GrD) : Bool := inB g.1 1 3 && inB g.2.1 1 40 && decide (g.2.2.length ≤ 120) && (List.range g.2.2.length).all (okE g)
theorem grB_false {g : GrD} (k : Nat) (hk : k < g.2.2.length) (h : okE g k = false) : grB g = false := by
  unfold grB
  have : (List.range g.2.2.length).all (okE g) = false := by
    rw [List.all_eq_false]
    exact ⟨k, List.mem_range.2 hk, by simp [h]⟩
  rw [this, Bool.and_false]
theorem grB_eq {g : GrD} (h : ∀ k, k < g.2.2.length → okE g k = true) : grB g = (inB g.1 1 3 && inB g.2.1 1 40 && decide (g.2.2.length ≤ 120)) := by
  unfold grB
  have : (List.range g.2.2.length).all (okE g) = true := by
    rw [List.all_eq_true]
    intro k hk
    exact h k (List.mem_range.1 hk)
  rw [this, Bool.and_true]
theorem okE_zero {g : GrD} (h : 0 < g.2.2.length) : okE g 0 = edgeOk g.1 g.2.1 g.2.2[0] := by
  unfold okE
  rw [List.getElem?_eq_getElem h]
  simp
theorem okE_pos {g : GrD} {k : Nat} (h0 : 0 < k) (h : k < g.2.2.length) : okE g k = (edgeOk g.1 g.2.1 g.2.2[k] && !decide (0 ≤ cmpE g.2.2[k - 1] g.2.2[k])) := by
  obtain ⟨j, rfl⟩ : ∃ j, k = j + 1 := ⟨k - 1, by omega⟩
  unfold okE
  rw [List.getElem?_eq_getElem h]
  show (edgeOk g.1 g.2.1 _ && (match g.2.2[j]? with | none => true | some d => decide (cmpE d g.2.2[j + 1] < 0))) = _
  rw [List.getElem?_eq_getElem (show j < g.2.2.length by omega)]
  simp only [Nat.add_sub_cancel]
  congr 1
  rw [Bool.eq_iff_iff]
  simp
theorem grB_parts {g : GrD} (h : grB g = true) : (1 ≤ g.1 ∧ g.1 ≤ 3) ∧ (1 ≤ g.2.1 ∧ g.2.1 ≤ 40) ∧ g.2.2.length ≤ 120 ∧ ∀ k, k < g.2.2.length → okE g k = true := by
  unfold grB at h
  simp only [Bool.and_eq_true, decide_eq_true_eq, List.all_eq_true, List.mem_range] at h
  obtain ⟨⟨⟨h1, h2⟩, h3⟩, h4⟩ := h
  exact ⟨inB_iff.1 h1, inB_iff.1 h2, h3, h4⟩

set_option maxHeartbeats 1000000 in
theorem specCompareEdges_any (a b : EdD) (w : World) :
    Calls Try.prog 73 #[edV a, edV b] w fun e w' => e = .returned (.int .i64 (cmpE a b)) ∧ Below w.heap.size w w' := by
  obtain ⟨x, y, z⟩ := a
  obtain ⟨x', y', z'⟩ := b
  obtain ⟨R, hR⟩ : ∃ R, R = cmpE (x, y, z) (x', y', z') := ⟨_, rfl⟩
  rw [← hR]
  have HR := Lib.hid hR
  clear hR
  unfold edV
  go_enter Try.func73, Try.ntmps73
  go_wp2
  have hb : Below w.heap.size w ((((w.alloc (Obj.cells #[Value.int IntKind.i64 x, Value.int IntKind.i64 y, Value.int IntKind.i64 z] 79)).alloc (Obj.cells #[Value.int IntKind.i64 x', Value.int IntKind.i64 y', Value.int IntKind.i64 z'] 79)).alloc (Obj.cells #[Value.int IntKind.i64 x, Value.int IntKind.i64 y, Value.int IntKind.i64 z] 3)).alloc (Obj.cells #[Value.int IntKind.i64 x', Value.int IntKind.i64 y', Value.int IntKind.i64 z'] 3)) := (by repeat (first | exact Below.refl _ _ | (refine Below.setCell ?_ (by first | omega | (simp <;> omega)) _) | (refine bel_drewN ?_ _) | (refine Below.drew ?_) | (refine Below.alloc ?_ (by first | omega | (simp <;> omega)) _)))
  have hc : ∀ j, j < 3 → ((((w.alloc (Obj.cells #[Value.int IntKind.i64 x, Value.int IntKind.i64 y, Value.int IntKind.i64 z] 79)).alloc (Obj.cells #[Value.int IntKind.i64 x', Value.int IntKind.i64 y', Value.int IntKind.i64 z'] 79)).alloc (Obj.cells #[Value.int IntKind.i64 x, Value.int IntKind.i64 y, Value.int IntKind.i64 z] 3)).alloc (Obj.cells #[Value.int IntKind.i64 x', Value.int IntKind.i64 y', Value.int IntKind.i64 z'] 3)).cell? ⟨w.heap.size + 1 + 1, j, none⟩ = some (.int .i64 (nth3 x y z j)) ∧
      ((((w.alloc (Obj.cells #[Value.int IntKind.i64 x, Value.int IntKind.i64 y, Value.int IntKind.i64 z] 79)).alloc (Obj.cells #[Value.int IntKind.i64 x', Value.int IntKind.i64 y', Value.int IntKind.i64 z'] 79)).alloc (Obj.cells #[Value.int IntKind.i64 x, Value.int IntKind.i64 y, Value.int IntKind.i64 z] 3)).alloc (Obj.cells #[Value.int IntKind.i64 x', Value.int IntKind.i64 y', Value.int IntKind.i64 z'] 3)).cell? ⟨w.heap.size + 1 + 1 + 1, j, none⟩ = some (.int .i64 (nth3 x' y' z' j)) := by
    intro j hj
    match j, hj with
    | 0, _ => simp [go_sem, nth3]
    | 1, _ => simp [go_sem, nth3]
    | 2, _ => simp [go_sem, nth3]
  generalize ((((w.alloc (Obj.cells #[Value.int IntKind.i64 x, Value.int IntKind.i64 y, Value.int IntKind.i64 z] 79)).alloc (Obj.cells #[Value.int IntKind.i64 x', Value.int IntKind.i64 y', Value.int IntKind.i64 z'] 79)).alloc (Obj.cells #[Value.int IntKind.i64 x, Value.int IntKind.i64 y, Value.int IntKind.i64 z] 3)).alloc (Obj.cells #[Value.int IntKind.i64 x', Value.int IntKind.i64 y', Value.int IntKind.i64 z'] 3)) = w4 at hb hc ⊢
  have HC := Lib.hid hc
  have HB := Lib.hid hb
  clear hc hb
  go_loopw [7] (fun i wr => ∃ k : Nat, k ≤ 3 ∧ i = .int .i64 k ∧ (∀ j, j < k → nth3 x y z j = nth3 x' y' z' j) ∧ ∃ n, wr = w4.drewN n) (fun i _ => 3 - (intOf i).toNat)
  case atStart => exact ⟨0, Nat.zero_le _, rfl, fun j hj => absurd hj (by omega), 0, rfl⟩
  case round =>
    obtain ⟨k, hk, rfl, heq, n, rfl⟩ := hrel
    have HEQ := Lib.hid heq
    clear heq
    by_cases hlt : k < 3
    · obtain ⟨c0, c1⟩ := HC.out k hlt
      have HL := Lib.hid (cmpE_first x y z x' y' z' k hlt HEQ.out)
      have HN : Hid (nth3 x y z k = nth3 x' y' z' k → ∀ j, j < k + 1 → nth3 x y z j = nth3 x' y' z' j) := Lib.hid fun F j hj => by
        rcases Nat.lt_or_eq_of_le (Nat.le_of_lt_succ hj) with hj | rfl
        · exact HEQ.out j hj
        · exact F
      generalize nth3 x y z k = p at *
      generalize nth3 x' y' z' k = q at *
      by_cases h1 : p < q
      · go_wp2
        go_quiet (fail)
        go_wp2
        go_ret
        exact ⟨ret_int (by rw [HR.out, HL.out.1 h1]), bel_drewN (bel_drewN HB.out _) _⟩
      · by_cases h2 : q < p
        · go_wp2
          go_quiet (fail)
          go_wp2
          go_quiet (fail)
          go_wp2
          go_ret
          exact ⟨ret_int (by rw [HR.out, HL.out.2 h2]), bel_drewN (bel_drewN (bel_drewN HB.out _) _) _⟩
        · go_wp2
          go_quiet (fail)
          go_wp2
          go_quiet (fail)
          go_wp2
          go_roundw
          case rel => exact ⟨k + 1, by omega, by go_num, HN.out (by omega), _, rfl⟩
          case measure => simp [intOf]; omega
    · obtain rfl : k = 3 := by omega
      have F : Hid (R = 0) := Lib.hid (by rw [HR.out]; exact cmpE_same x y z x' y' z' HEQ.out)
      go_wp2
      go_ret
      exact ⟨ret_int F.out.symm, bel_drewN HB.out _⟩
set_option maxHeartbeats 1000000 in
theorem l4Edge_any (r n : Int) (A : Option Addr) (m cap : Nat) (e : EdD) (w : World) :
    Calls Try.prog 70 #[.agg #[.int .i64 r, .int .i64 n, .slice A m cap], edV e] w fun e' w' => e' = .returned (.bool (edgeOk r n e)) ∧ Below w.heap.size w w' := by
  obtain ⟨x, y, z⟩ := e
  unfold edV
  rcases e1 : inB x 0 (wrap64 (n - 1)) with _ | _
  · go_enter Try.func70, Try.ntmps70
    go_wp2_with (go_at_call 33; refine (l1In_any _ _ _ _).mono ?_; rintro e w' ⟨rfl, rfl⟩)
    go_ret
    exact ⟨ret_bool (by simp [edgeOk, e1]), (by repeat (first | exact Below.refl _ _ | (refine Below.setCell ?_ (by first | omega | (simp <;> omega)) _) | (refine bel_drewN ?_ _) | (refine Below.drew ?_) | (refine Below.alloc ?_ (by first | omega | (simp <;> omega)) _)))⟩
  · rcases e2 : inB z 0 (wrap64 (n - 1)) with _ | _
    · go_enter Try.func70, Try.ntmps70
      go_wp2_with (go_at_call 33; refine (l1In_any _ _ _ _).mono ?_; rintro e w' ⟨rfl, rfl⟩)
      go_ret
      exact ⟨ret_bool (by simp [edgeOk, e1, e2]), (by repeat (first | exact Below.refl _ _ | (refine Below.setCell ?_ (by first | omega | (simp <;> omega)) _) | (refine bel_drewN ?_ _) | (refine Below.drew ?_) | (refine Below.alloc ?_ (by first | omega | (simp <;> omega)) _)))⟩
    · go_enter Try.func70, Try.ntmps70
      go_wp2_with (go_at_call 33; refine (l1In_any _ _ _ _).mono ?_; rintro e w' ⟨rfl, rfl⟩)
      go_ret
      exact ⟨ret_bool (by simp [edgeOk, e1, e2]), (by repeat (first | exact Below.refl _ _ | (refine Below.setCell ?_ (by first | omega | (simp <;> omega)) _) | (refine bel_drewN ?_ _) | (refine Below.drew ?_) | (refine Below.alloc ?_ (by first | omega | (simp <;> omega)) _)))⟩
end Go.Proofs.Ytgoghkboklehnaa
