/- Edges compared; which graphs are valid, of the reference and of the program. EqualGraphs of the reference and of the program; IsListed. -/
import Derived.Test.YtfadnkjlilhneaaGreatGr
import Derived.Laws.StructEq
import Derived.Test.YtfadnkjlilhneaaGreatCmp
namespace Go.Proofs.YtfadnkjlilhneaaGreat
set_option maxRecDepth 20000
set_option linter.unusedVariables false
set_option linter.unusedSimpArgs false
open Go.RowKit

def edV (e : EdD) : Value := .agg #[.int .i64 e.1, .int .i64 e.2.1, .int .i64 e.2.2]
theorem edge_eqIn (a b : EdD) (w : World) : (Op.equalIn 10000 54 (edV a) (edV b)).run Tryz.prog w = .ok (decide (a = b)) w := by
 have u3 := Tryz.underlying3
 have a3 := Tryz.isAgg3
 have z3 := Tryz.sizeOf3
 have hS : Tryz.prog.underlying 54 = some (.struct (Tryz.prog.fieldsOf 54)) := by kernel_rfl
 have hp : Tryz.prog.stoodInHeld 54 = false := by kernel_rfl
 obtain ⟨x, y, z⟩ := a
 obtain ⟨x', y', z'⟩ := b
 simp only [edV]
 rw [show (10000 : Nat) = 9999 + 1 from rfl, run_equalIn_agg w 9999 54 _ _ hS hp]
 simp only [Program.fieldsOf, Tryz.underlying54]
 go_simp
 by_cases h1 : x = x' <;> by_cases h2 : y = y' <;> by_cases h3 : z = z' <;> simp [h1, h2, h3]
theorem edge_neq (a b : EdD) (w : World) : (binOp .neq 54 (edV a) (edV b)).run Tryz.prog w = .ok (.bool (!decide (a = b))) w := by
 have := edge_eqIn a b w
 unfold edV at this ⊢
 rw [run_neq_struct, this]
 rfl
theorem edge_eql (a b : EdD) (w : World) : (binOp .eql 54 (edV a) (edV b)).run Tryz.prog w = .ok (.bool (decide (a = b))) w := by
 have := edge_eqIn a b w
 unfold edV at this ⊢
 rw [run_eql_struct, this]
 rfl
theorem edge_guard : Tryz.prog.eqGuardType Tryz.prog.depth 54 = false := by kernel_rfl
set_option maxHeartbeats 1000000 in
theorem specEqualGraphs_any (v u : Value) (d d' : GrD) (w : World) (h : ArgG w v d) (h' : ArgG w u d') :
  Calls Tryz.prog 92 #[v, u] w fun e w' => e = .returned (.bool (decide (d = d'))) ∧ Below w.heap.size w w' := by
 obtain ⟨s, rfl, _, _, ha⟩ := h
 obtain ⟨s', rfl, _, _, ha'⟩ := h'
 obtain ⟨x, y, es⟩ := d
 obtain ⟨x', y', es'⟩ := d'
 have H := Lib.hid ha
 have H' := Lib.hid ha'
 obtain ⟨A, cap, rfl, hcap, hm, _⟩ := ha
 obtain ⟨A', cap', rfl, hcap', hm', _⟩ := ha'
 unfold maxLen at hm hm'
 rcases e1 : (x != x') with _ | _
 ·rcases e2 : (y != y') with _ | _
  ·by_cases hne : es.length = es'.length
   ·have F : Hid (decide ((x, y, es) = (x', y', es')) = decide (es = es')) := Lib.hid (by simp at e1 e2; simp [e1, e2])
    have hd : ((es.length : Int) != (es'.length : Int)) = false := by simp [hne]
    have HNE := Lib.hid hne
    clear hne
    go_enter Tryz.func92, Tryz.ntmps92
    go_wp2
    have hb : Below w.heap.size w ((w.alloc (Obj.cells #[Value.int IntKind.i64 x, Value.int IntKind.i64 y, .slice A es.length cap] 31)).alloc (Obj.cells #[Value.int IntKind.i64 x', Value.int IntKind.i64 y', .slice A' es'.length cap'] 31)) := (by repeat (first | exact Below.refl _ _ | (refine Below.setCell ?_ (by first | omega | (simp <;> omega)) _) | (refine bel_drewN ?_ _) | (refine Below.drew ?_) | (refine Below.alloc ?_ (by first | omega | (simp <;> omega)) _)))
    have q0 : ((w.alloc (Obj.cells #[Value.int IntKind.i64 x, Value.int IntKind.i64 y, .slice A es.length cap] 31)).alloc (Obj.cells #[Value.int IntKind.i64 x', Value.int IntKind.i64 y', .slice A' es'.length cap'] 31)).cell? ⟨w.heap.size, 2, none⟩ = some (.slice A es.length cap) := by simp [go_sem]
    have q1 : ((w.alloc (Obj.cells #[Value.int IntKind.i64 x, Value.int IntKind.i64 y, .slice A es.length cap] 31)).alloc (Obj.cells #[Value.int IntKind.i64 x', Value.int IntKind.i64 y', .slice A' es'.length cap'] 31)).cell? ⟨w.heap.size + 1, 2, none⟩ = some (.slice A' es'.length cap') := by simp [go_sem]
    generalize (w.alloc (Obj.cells #[Value.int IntKind.i64 x, Value.int IntKind.i64 y, .slice A es.length cap] 31)).alloc (Obj.cells #[Value.int IntKind.i64 x', Value.int IntKind.i64 y', .slice A' es'.length cap'] 31) = w2 at hb q0 q1 ⊢
    have HB := Lib.hid hb
    clear hb
    go_loopw [5] (fun i wr => ∃ k : Nat, k ≤ es.length ∧ i = .int .i64 k ∧ es.take k = es'.take k ∧ ∃ n, wr = w2.drewN n) (fun i _ => es.length - (intOf i).toNat)
    case atStart => exact ⟨0, Nat.zero_le _, rfl, by simp, 0, rfl⟩
    case round =>
     obtain ⟨k, hk, rfl, heq, n, rfl⟩ := hrel
     have HEQ := Lib.hid heq
     clear heq
     by_cases hlt : k < es.length
     ·have hlt' : k < es'.length := by have := HNE.out; omega
      obtain ⟨g, off, rfl, hg, c0, c1, c2, _⟩ := (H.out.below HB.out).at hlt
      obtain ⟨g', off', rfl, hg', c0', c1', c2', _⟩ := (H'.out.below HB.out).at hlt'
      have HQ : Hid (es.take (k + 1) = es'.take (k + 1) ↔ es[k] = es'[k]) := Lib.hid ⟨fun e => by
       have := congrArg (fun l => l[k]?) e
       simpa [hlt, hlt'] using this, fun e => take_eq_succ HEQ.out hlt hlt' e⟩
      have HN : Hid (es[k] ≠ es'[k] → es ≠ es') := Lib.hid (fun e1 e2 => by subst e2; exact e1 rfl)
      generalize es[k] = d at *
      generalize es'[k] = d' at *
      have hneq := fun w => edge_neq d d' w
      have hgd := edge_guard
      unfold edV at hneq
      rcases e3 : decide (d = d') with _ | _
      ·rw [e3] at hneq
       go_wp2
       go_quiet (fail)
       go_wp2
       go_ret
       exact ⟨ret_bool (by rw [F.out]; symm; rw [decide_eq_false_iff_not]; exact HN.out (by simpa using e3)), bel_drewN (bel_drewN HB.out _) _⟩
      ·rw [e3] at hneq
       go_wp2
       go_quiet (fail)
       go_wp2
       go_roundw
       case rel => exact ⟨k + 1, by omega, by go_num, HQ.out.2 (by simpa using e3), _, rfl⟩
       case measure => simp [intOf]; omega
     ·obtain rfl : k = es.length := by omega
      go_wp2
      go_ret
      refine ⟨ret_bool ?_, bel_drewN HB.out _⟩
      have h1 := HEQ.out
      rw [List.take_length, HNE.out, List.take_length] at h1
      rw [F.out]
      simp [h1]
   ·have hd : ((es.length : Int) != (es'.length : Int)) = true := by simp; omega
    go_enter Tryz.func92, Tryz.ntmps92
    go_wp2
    go_ret
    have F : es ≠ es' := fun e => hne (by rw [e])
    exact ⟨ret_bool (by simp [F]), (by repeat (first | exact Below.refl _ _ | (refine Below.setCell ?_ (by first | omega | (simp <;> omega)) _) | (refine bel_drewN ?_ _) | (refine Below.drew ?_) | (refine Below.alloc ?_ (by first | omega | (simp <;> omega)) _)))⟩
  ·go_enter Tryz.func92, Tryz.ntmps92
   go_wp2
   go_ret
   exact ⟨ret_bool (by simp at e2; simp [e2]), (by repeat (first | exact Below.refl _ _ | (refine Below.setCell ?_ (by first | omega | (simp <;> omega)) _) | (refine bel_drewN ?_ _) | (refine Below.drew ?_) | (refine Below.alloc ?_ (by first | omega | (simp <;> omega)) _)))⟩
 ·go_enter Tryz.func92, Tryz.ntmps92
  go_wp2
  go_ret
  exact ⟨ret_bool (by simp at e1; simp [e1]), (by repeat (first | exact Below.refl _ _ | (refine Below.setCell ?_ (by first | omega | (simp <;> omega)) _) | (refine bel_drewN ?_ _) | (refine Below.drew ?_) | (refine Below.alloc ?_ (by first | omega | (simp <;> omega)) _)))⟩
set_option maxHeartbeats 1000000 in
theorem slicesEqualE_any (v u : Value) (es es' : List EdD) (w : World) (h : ArgE w v es) (h' : ArgE w u es') :
  Calls Tryz.prog 103 #[v, u] w fun e w' => e = .returned (.bool (decide (es = es'))) ∧ ∃ n, w' = w.drewN n := by
 have H := Lib.hid h
 have H' := Lib.hid h'
 obtain ⟨A, cap, rfl, hcap, hm, _⟩ := h
 obtain ⟨A', cap', rfl, hcap', hm', _⟩ := h'
 unfold maxLen at hm hm'
 by_cases hne : es.length = es'.length
 ·have hd : ((es.length : Int) != (es'.length : Int)) = false := by simp [hne]
  have HNE := Lib.hid hne
  clear hne
  go_enter Tryz.func103, Tryz.ntmps103
  go_wp2
  go_loopw [13] (fun i wr => ∃ k : Nat, k ≤ es.length ∧ i = .int .i64 k ∧ es.take k = es'.take k ∧ ∃ n, wr = w.drewN n) (fun i _ => es.length - (intOf i).toNat)
  case atStart => exact ⟨0, Nat.zero_le _, rfl, by simp, 0, rfl⟩
  case round =>
   obtain ⟨k, hk, rfl, heq, n, rfl⟩ := hrel
   have HEQ := Lib.hid heq
   clear heq
   by_cases hlt : k < es.length
   ·have hlt' : k < es'.length := by have := HNE.out; omega
    obtain ⟨g, off, rfl, hg, c0, c1, c2, _⟩ := H.out.at hlt
    obtain ⟨g', off', rfl, hg', c0', c1', c2', _⟩ := H'.out.at hlt'
    have HQ : Hid (es.take (k + 1) = es'.take (k + 1) ↔ es[k] = es'[k]) := Lib.hid ⟨fun e => by
     have := congrArg (fun l => l[k]?) e
     simpa [hlt, hlt'] using this, fun e => take_eq_succ HEQ.out hlt hlt' e⟩
    have HN : Hid (es[k] ≠ es'[k] → es ≠ es') := Lib.hid (fun e1 e2 => by subst e2; exact e1 rfl)
    generalize es[k] = d at *
    generalize es'[k] = d' at *
    have hneq := fun w => edge_neq d d' w
    have hgd := edge_guard
    unfold edV at hneq
    rcases e3 : decide (d = d') with _ | _
    ·rw [e3] at hneq
     go_wp2
     go_quiet (fail)
     go_wp2
     go_ret
     exact ⟨ret_bool (by symm; rw [decide_eq_false_iff_not]; exact HN.out (by simpa using e3)), _, World.drewN_drewN _ _ _⟩
    ·rw [e3] at hneq
     go_wp2
     go_quiet (fail)
     go_wp2
     go_roundw
     case rel => exact ⟨k + 1, by omega, by go_num, HQ.out.2 (by simpa using e3), _, rfl⟩
     case measure => simp [intOf]; omega
   ·obtain rfl : k = es.length := by omega
    go_wp2
    go_ret
    refine ⟨ret_bool ?_, n, rfl⟩
    have h1 := HEQ.out
    rw [List.take_length, HNE.out, List.take_length] at h1
    simp [h1]
 ·have hd : ((es.length : Int) != (es'.length : Int)) = true := by simp; omega
  go_enter Tryz.func103, Tryz.ntmps103
  go_wp2
  go_ret
  exact ⟨ret_bool (by symm; rw [decide_eq_false_iff_not]; rintro rfl; exact hne rfl), 0, rfl⟩
set_option maxHeartbeats 1000000 in
theorem implEqualGraphs_any (v u : Value) (d d' : GrD) (w : World) (h : ArgG w v d) (h' : ArgG w u d') :
  Calls Tryz.prog 64 #[v, u] w fun e w' => e = .returned (.bool (decide (d = d'))) ∧ Below w.heap.size w w' := by
 obtain ⟨s, rfl, _, _, ha⟩ := h
 obtain ⟨s', rfl, _, _, ha'⟩ := h'
 obtain ⟨x, y, es⟩ := d
 obtain ⟨x', y', es'⟩ := d'
 have H := Lib.hid ha
 have H' := Lib.hid ha'
 clear ha ha'
 rcases e1 : (x == x') with _ | _
 ·go_enter Tryz.func64, Tryz.ntmps64
  go_wp2
  go_ret
  exact ⟨ret_bool (by simp at e1; simp [e1]), (by repeat (first | exact Below.refl _ _ | (refine Below.setCell ?_ (by first | omega | (simp <;> omega)) _) | (refine bel_drewN ?_ _) | (refine Below.drew ?_) | (refine Below.alloc ?_ (by first | omega | (simp <;> omega)) _)))⟩
 ·rcases e2 : (y == y') with _ | _
  ·go_enter Tryz.func64, Tryz.ntmps64
   go_wp2
   go_ret
   exact ⟨ret_bool (by simp at e2; simp [e2]), (by repeat (first | exact Below.refl _ _ | (refine Below.setCell ?_ (by first | omega | (simp <;> omega)) _) | (refine bel_drewN ?_ _) | (refine Below.drew ?_) | (refine Below.alloc ?_ (by first | omega | (simp <;> omega)) _)))⟩
  ·have F : Hid (decide ((x, y, es) = (x', y', es')) = decide (es = es')) := Lib.hid (by simp at e1 e2; simp [e1, e2])
   go_enter Tryz.func64, Tryz.ntmps64
   go_wp2_with fail
   have hb : Below w.heap.size w ((w.alloc (Obj.cells #[Value.int IntKind.i64 x, Value.int IntKind.i64 y, s] 31)).alloc (Obj.cells #[Value.int IntKind.i64 x', Value.int IntKind.i64 y', s'] 31)) := (by repeat (first | exact Below.refl _ _ | (refine Below.setCell ?_ (by first | omega | (simp <;> omega)) _) | (refine bel_drewN ?_ _) | (refine Below.drew ?_) | (refine Below.alloc ?_ (by first | omega | (simp <;> omega)) _)))
   refine (slicesEqualE_any _ _ es es' _ (H.out.below hb) (H'.out.below hb)).mono ?_
   rintro e w1 ⟨rfl, n, rfl⟩
   have HB := Lib.hid hb
   clear hb
   go_wp2
   go_ret
   exact ⟨ret_bool F.out.symm, bel_drewN HB.out _⟩
def cmpE (a b : EdD) : Int := if cmpI a.1 b.1 ≠ 0 then cmpI a.1 b.1 else if cmpI a.2.1 b.2.1 ≠ 0 then cmpI a.2.1 b.2.1 else cmpI a.2.2 b.2.2
theorem cmpI_zero {a b : Int} : cmpI a b = 0 ↔ a = b := by
 unfold cmpI; split
 ·constructor
  ·intro h; cases h
  ·omega
 ·split
  ·constructor
   ·intro h; cases h
   ·omega
  ·constructor
   ·omega
   ·intro _; rfl
def nth3 (x y z : Int) : Nat → Int
 | 0 => x
 | 1 => y
 | _ => z
theorem cmpE_first (x y z x' y' z' : Int) (k : Nat) (hk : k < 3) (h : ∀ j, j < k → nth3 x y z j = nth3 x' y' z' j) : (nth3 x y z k < nth3 x' y' z' k → cmpE (x, y, z) (x', y', z') = -1) ∧ (nth3 x' y' z' k < nth3 x y z k → cmpE (x, y, z) (x', y', z') = 1) := by
 match k, hk with
 | 0, _ =>
   simp only [nth3]
   refine ⟨fun h => ?_, fun h => ?_⟩
   ·have : cmpI x x' = -1 := by unfold cmpI; rw [if_pos h]
    simp [cmpE, this]
   ·have : cmpI x x' = 1 := by unfold cmpI; rw [if_neg (by omega), if_pos h]
    simp [cmpE, this]
 | 1, _ =>
   have h0 : x = x' := h 0 (by omega)
   simp only [nth3]
   refine ⟨fun h => ?_, fun h => ?_⟩
   ·have : cmpI y y' = -1 := by unfold cmpI; rw [if_pos h]
    simp [cmpE, this, cmpI_zero.2 h0]
   ·have : cmpI y y' = 1 := by unfold cmpI; rw [if_neg (by omega), if_pos h]
    simp [cmpE, this, cmpI_zero.2 h0]
 | 2, _ =>
   have h0 : x = x' := h 0 (by omega)
   have h1 : y = y' := h 1 (by omega)
   simp only [nth3]
   refine ⟨fun h => ?_, fun h => ?_⟩
   ·have : cmpI z z' = -1 := by unfold cmpI; rw [if_pos h]
    simp [cmpE, this, cmpI_zero.2 h0, cmpI_zero.2 h1]
   ·have : cmpI z z' = 1 := by unfold cmpI; rw [if_neg (by omega), if_pos h]
    simp [cmpE, this, cmpI_zero.2 h0, cmpI_zero.2 h1]
theorem cmpE_same (x y z x' y' z' : Int) (h : ∀ j, j < 3 → nth3 x y z j = nth3 x' y' z' j) : cmpE (x, y, z) (x', y', z') = 0 := by
 have h0 : x = x' := h 0 (by omega)
 have h1 : y = y' := h 1 (by omega)
 have h2 : z = z' := h 2 (by omega)
 simp [cmpE, cmpI_zero.2 h0, cmpI_zero.2 h1, cmpI_zero.2 h2]
def edgeOk (r n : Int) (e : EdD) : Bool := inB e.1 0 (wrap64 (n - 1)) && inB e.2.2 0 (wrap64 (n - 1)) && inB e.2.1 1 r
def okE (g : GrD) (k : Nat) : Bool := match g.2.2[k]? with
 | none => true
 | some e => edgeOk g.1 g.2.1 e && (match k with
   | 0 => true
   | j + 1 => match g.2.2[j]? with
     | none => true
     | some d => decide (cmpE d e < 0))
def grB (g : GrD) : Bool := inB g.1 1 3 && inB g.2.1 1 40 && decide (g.2.2.length ≤ 120) && (List.range g.2.2.length).all (okE g)
theorem grB_false {g : GrD} (k : Nat) (hk : k < g.2.2.length) (h : okE g k = false) : grB g = false := by
 unfold grB
 have : (List.range g.2.2.length).all (okE g) = false := by
  rw [List.all_eq_false]
  exact ⟨k, List.mem_range.2 hk, by simp [h]⟩
 rw [this, Bool.and_false]
theorem grB_eq {g : GrD} (h : ∀ k, k < g.2.2.length → okE g k = true) : grB g = (inB g.1 1 3 && inB g.2.1 1 40 && decide (g.2.2.length ≤ 120)) := by
 unfold grB
 have : (List.range g.2.2.length).all (okE g) = true := by
  rw [List.all_eq_true]
  intro k hk
  exact h k (List.mem_range.1 hk)
 rw [this, Bool.and_true]
theorem okE_zero {g : GrD} (h : 0 < g.2.2.length) : okE g 0 = edgeOk g.1 g.2.1 g.2.2[0] := by
 unfold okE
 rw [List.getElem?_eq_getElem h]
 simp
theorem okE_pos {g : GrD} {k : Nat} (h0 : 0 < k) (h : k < g.2.2.length) : okE g k = (edgeOk g.1 g.2.1 g.2.2[k] && !decide (0 ≤ cmpE g.2.2[k - 1] g.2.2[k])) := by
 obtain ⟨j, rfl⟩ : ∃ j, k = j + 1 := ⟨k - 1, by omega⟩
 unfold okE
 rw [List.getElem?_eq_getElem h]
 show (edgeOk g.1 g.2.1 _ && (match g.2.2[j]? with | none => true | some d => decide (cmpE d g.2.2[j + 1] < 0))) = _
 rw [List.getElem?_eq_getElem (show j < g.2.2.length by omega)]
 simp only [Nat.add_sub_cancel]
 congr 1
 rw [Bool.eq_iff_iff]
 simp
theorem grB_parts {g : GrD} (h : grB g = true) : (1 ≤ g.1 ∧ g.1 ≤ 3) ∧ (1 ≤ g.2.1 ∧ g.2.1 ≤ 40) ∧ g.2.2.length ≤ 120 ∧ ∀ k, k < g.2.2.length → okE g k = true := by
 unfold grB at h
 simp only [Bool.and_eq_true, decide_eq_true_eq, List.all_eq_true, List.mem_range] at h
 obtain ⟨⟨⟨h1, h2⟩, h3⟩, h4⟩ := h
 exact ⟨inB_iff.1 h1, inB_iff.1 h2, h3, h4⟩

set_option maxHeartbeats 1000000 in
theorem specCompareEdges_any (a b : EdD) (w : World) :
  Calls Tryz.prog 97 #[edV a, edV b] w fun e w' => e = .returned (.int .i64 (cmpE a b)) ∧ Below w.heap.size w w' := by
 obtain ⟨x, y, z⟩ := a
 obtain ⟨x', y', z'⟩ := b
 obtain ⟨R, hR⟩ : ∃ R, R = cmpE (x, y, z) (x', y', z') := ⟨_, rfl⟩
 rw [← hR]
 have HR := Lib.hid hR
 clear hR
 unfold edV
 go_enter Tryz.func97, Tryz.ntmps97
 go_wp2
 have hb : Below w.heap.size w ((((w.alloc (Obj.cells #[Value.int IntKind.i64 x, Value.int IntKind.i64 y, Value.int IntKind.i64 z] 54)).alloc (Obj.cells #[Value.int IntKind.i64 x', Value.int IntKind.i64 y', Value.int IntKind.i64 z'] 54)).alloc (Obj.cells #[Value.int IntKind.i64 x, Value.int IntKind.i64 y, Value.int IntKind.i64 z] 3)).alloc (Obj.cells #[Value.int IntKind.i64 x', Value.int IntKind.i64 y', Value.int IntKind.i64 z'] 3)) := (by repeat (first | exact Below.refl _ _ | (refine Below.setCell ?_ (by first | omega | (simp <;> omega)) _) | (refine bel_drewN ?_ _) | (refine Below.drew ?_) | (refine Below.alloc ?_ (by first | omega | (simp <;> omega)) _)))
 have hc : ∀ j, j < 3 → ((((w.alloc (Obj.cells #[Value.int IntKind.i64 x, Value.int IntKind.i64 y, Value.int IntKind.i64 z] 54)).alloc (Obj.cells #[Value.int IntKind.i64 x', Value.int IntKind.i64 y', Value.int IntKind.i64 z'] 54)).alloc (Obj.cells #[Value.int IntKind.i64 x, Value.int IntKind.i64 y, Value.int IntKind.i64 z] 3)).alloc (Obj.cells #[Value.int IntKind.i64 x', Value.int IntKind.i64 y', Value.int IntKind.i64 z'] 3)).cell? ⟨w.heap.size + 1 + 1, j, none⟩ = some (.int .i64 (nth3 x y z j)) ∧
   ((((w.alloc (Obj.cells #[Value.int IntKind.i64 x, Value.int IntKind.i64 y, Value.int IntKind.i64 z] 54)).alloc (Obj.cells #[Value.int IntKind.i64 x', Value.int IntKind.i64 y', Value.int IntKind.i64 z'] 54)).alloc (Obj.cells #[Value.int IntKind.i64 x, Value.int IntKind.i64 y, Value.int IntKind.i64 z] 3)).alloc (Obj.cells #[Value.int IntKind.i64 x', Value.int IntKind.i64 y', Value.int IntKind.i64 z'] 3)).cell? ⟨w.heap.size + 1 + 1 + 1, j, none⟩ = some (.int .i64 (nth3 x' y' z' j)) := by
  intro j hj
  match j, hj with
  | 0, _ => simp [go_sem, nth3]
  | 1, _ => simp [go_sem, nth3]
  | 2, _ => simp [go_sem, nth3]
 generalize ((((w.alloc (Obj.cells #[Value.int IntKind.i64 x, Value.int IntKind.i64 y, Value.int IntKind.i64 z] 54)).alloc (Obj.cells #[Value.int IntKind.i64 x', Value.int IntKind.i64 y', Value.int IntKind.i64 z'] 54)).alloc (Obj.cells #[Value.int IntKind.i64 x, Value.int IntKind.i64 y, Value.int IntKind.i64 z] 3)).alloc (Obj.cells #[Value.int IntKind.i64 x', Value.int IntKind.i64 y', Value.int IntKind.i64 z'] 3)) = w4 at hb hc ⊢
 have HC := Lib.hid hc
 have HB := Lib.hid hb
 clear hc hb
 go_loopw [7] (fun i wr => ∃ k : Nat, k ≤ 3 ∧ i = .int .i64 k ∧ (∀ j, j < k → nth3 x y z j = nth3 x' y' z' j) ∧ ∃ n, wr = w4.drewN n) (fun i _ => 3 - (intOf i).toNat)
 case atStart => exact ⟨0, Nat.zero_le _, rfl, fun j hj => absurd hj (by omega), 0, rfl⟩
 case round =>
  obtain ⟨k, hk, rfl, heq, n, rfl⟩ := hrel
  have HEQ := Lib.hid heq
  clear heq
  by_cases hlt : k < 3
  ·obtain ⟨c0, c1⟩ := HC.out k hlt
   have HL := Lib.hid (cmpE_first x y z x' y' z' k hlt HEQ.out)
   have HN : Hid (nth3 x y z k = nth3 x' y' z' k → ∀ j, j < k + 1 → nth3 x y z j = nth3 x' y' z' j) := Lib.hid fun F j hj => by
    rcases Nat.lt_or_eq_of_le (Nat.le_of_lt_succ hj) with hj | rfl
    ·exact HEQ.out j hj
    ·exact F
   generalize nth3 x y z k = p at *
   generalize nth3 x' y' z' k = q at *
   by_cases h1 : p < q
   ·go_wp2
    go_quiet (fail)
    go_wp2
    go_ret
    exact ⟨ret_int (by rw [HR.out, HL.out.1 h1]), bel_drewN (bel_drewN HB.out _) _⟩
   ·by_cases h2 : q < p
    ·go_wp2
     go_quiet (fail)
     go_wp2
     go_quiet (fail)
     go_wp2
     go_ret
     exact ⟨ret_int (by rw [HR.out, HL.out.2 h2]), bel_drewN (bel_drewN (bel_drewN HB.out _) _) _⟩
    ·go_wp2
     go_quiet (fail)
     go_wp2
     go_quiet (fail)
     go_wp2
     go_roundw
     case rel => exact ⟨k + 1, by omega, by go_num, HN.out (by omega), _, rfl⟩
     case measure => simp [intOf]; omega
  ·obtain rfl : k = 3 := by omega
   have F : Hid (R = 0) := Lib.hid (by rw [HR.out]; exact cmpE_same x y z x' y' z' HEQ.out)
   go_wp2
   go_ret
   exact ⟨ret_int F.out.symm, bel_drewN HB.out _⟩
set_option maxHeartbeats 1000000 in
theorem implCompareEdges_any (a b : EdD) (w : World) :
  Calls Tryz.prog 108 #[edV a, edV b] w fun e w' => e = .returned (.int .i64 (cmpE a b)) ∧ Below w.heap.size w w' := by
 obtain ⟨x, y, z⟩ := a
 obtain ⟨x', y', z'⟩ := b
 unfold edV
 rcases e1 : (cmpI x x' != 0) with _ | _
 ·rcases e2 : (cmpI y y' != 0) with _ | _
  ·have F : Hid (cmpE (x, y, z) (x', y', z') = cmpI z z') := Lib.hid (by simp at e1 e2; simp [cmpE, e1, e2])
   go_enter Tryz.func108, Tryz.ntmps108
   go_wp2_with (go_at_call 135; refine (compareInts_any _ _ _).mono ?_; rintro e w' ⟨rfl, rfl⟩)
   go_ret
   exact ⟨ret_int F.out.symm, (by repeat (first | exact Below.refl _ _ | (refine Below.setCell ?_ (by first | omega | (simp <;> omega)) _) | (refine bel_drewN ?_ _) | (refine Below.drew ?_) | (refine Below.alloc ?_ (by first | omega | (simp <;> omega)) _)))⟩
  ·have F : Hid (cmpE (x, y, z) (x', y', z') = cmpI y y') := Lib.hid (by simp at e1 e2; simp [cmpE, e1, e2])
   go_enter Tryz.func108, Tryz.ntmps108
   go_wp2_with (go_at_call 135; refine (compareInts_any _ _ _).mono ?_; rintro e w' ⟨rfl, rfl⟩)
   go_ret
   exact ⟨ret_int F.out.symm, (by repeat (first | exact Below.refl _ _ | (refine Below.setCell ?_ (by first | omega | (simp <;> omega)) _) | (refine bel_drewN ?_ _) | (refine Below.drew ?_) | (refine Below.alloc ?_ (by first | omega | (simp <;> omega)) _)))⟩
 ·have F : Hid (cmpE (x, y, z) (x', y', z') = cmpI x x') := Lib.hid (by simp at e1; simp [cmpE, e1])
  go_enter Tryz.func108, Tryz.ntmps108
  go_wp2_with (go_at_call 135; refine (compareInts_any _ _ _).mono ?_; rintro e w' ⟨rfl, rfl⟩)
  go_ret
  exact ⟨ret_int F.out.symm, (by repeat (first | exact Below.refl _ _ | (refine Below.setCell ?_ (by first | omega | (simp <;> omega)) _) | (refine bel_drewN ?_ _) | (refine Below.drew ?_) | (refine Below.alloc ?_ (by first | omega | (simp <;> omega)) _)))⟩
set_option maxHeartbeats 1000000 in
theorem l4Edge_any (r n : Int) (A : Option Addr) (m cap : Nat) (e : EdD) (w : World) :
  Calls Tryz.prog 128 #[.agg #[.int .i64 r, .int .i64 n, .slice A m cap], edV e] w fun e' w' => e' = .returned (.bool (edgeOk r n e)) ∧ Below w.heap.size w w' := by
 obtain ⟨x, y, z⟩ := e
 unfold edV
 rcases e1 : inB x 0 (wrap64 (n - 1)) with _ | _
 ·go_enter Tryz.func128, Tryz.ntmps128
  go_wp2_with (go_at_call 57; refine (l1In_any _ _ _ _).mono ?_; rintro e w' ⟨rfl, rfl⟩)
  go_ret
  exact ⟨ret_bool (by simp [edgeOk, e1]), (by repeat (first | exact Below.refl _ _ | (refine Below.setCell ?_ (by first | omega | (simp <;> omega)) _) | (refine bel_drewN ?_ _) | (refine Below.drew ?_) | (refine Below.alloc ?_ (by first | omega | (simp <;> omega)) _)))⟩
 ·rcases e2 : inB z 0 (wrap64 (n - 1)) with _ | _
  ·go_enter Tryz.func128, Tryz.ntmps128
   go_wp2_with (go_at_call 57; refine (l1In_any _ _ _ _).mono ?_; rintro e w' ⟨rfl, rfl⟩)
   go_ret
   exact ⟨ret_bool (by simp [edgeOk, e1, e2]), (by repeat (first | exact Below.refl _ _ | (refine Below.setCell ?_ (by first | omega | (simp <;> omega)) _) | (refine bel_drewN ?_ _) | (refine Below.drew ?_) | (refine Below.alloc ?_ (by first | omega | (simp <;> omega)) _)))⟩
  ·go_enter Tryz.func128, Tryz.ntmps128
   go_wp2_with (go_at_call 57; refine (l1In_any _ _ _ _).mono ?_; rintro e w' ⟨rfl, rfl⟩)
   go_ret
   exact ⟨ret_bool (by simp [edgeOk, e1, e2]), (by repeat (first | exact Below.refl _ _ | (refine Below.setCell ?_ (by first | omega | (simp <;> omega)) _) | (refine bel_drewN ?_ _) | (refine Below.drew ?_) | (refine Below.alloc ?_ (by first | omega | (simp <;> omega)) _)))⟩
set_option maxHeartbeats 1000000 in
theorem grHas_any (r n : Int) (A : Option Addr) (m cap : Nat) (x : Int) (w : World) :
  Calls Tryz.prog 68 #[.agg #[.int .i64 r, .int .i64 n, .slice A m cap], .int .i64 x] w fun e' w' => e' = .returned (.bool (inB x 0 (wrap64 (n - 1)))) ∧ Below w.heap.size w w' := by
 go_enter Tryz.func68, Tryz.ntmps68
 go_wp2_with (go_at_call 106; refine (within_any _ _ _ _).mono ?_; rintro e w' ⟨rfl, rfl⟩)
 go_ret
 exact ⟨rfl, (by repeat (first | exact Below.refl _ _ | (refine Below.setCell ?_ (by first | omega | (simp <;> omega)) _) | (refine bel_drewN ?_ _) | (refine Below.drew ?_) | (refine Below.alloc ?_ (by first | omega | (simp <;> omega)) _)))⟩
set_option maxHeartbeats 1000000 in
theorem accepts_any (r n : Int) (A : Option Addr) (m cap : Nat) (e : EdD) (w : World) :
  Calls Tryz.prog 130 #[.agg #[.int .i64 r, .int .i64 n, .slice A m cap], edV e] w fun e' w' => e' = .returned (.bool (edgeOk r n e)) ∧ Below w.heap.size w w' := by
 obtain ⟨x, y, z⟩ := e
 unfold edV
 rcases e1 : inB x 0 (wrap64 (n - 1)) with _ | _
 ·go_enter Tryz.func130, Tryz.ntmps130
  go_wp2_with fail
  refine (grHas_any _ _ _ _ _ _ _).mono ?_
  rintro e w1 ⟨rfl, b1⟩
  have B1 := Lib.hid b1
  obtain ⟨hc, hf⟩ := bcell b1
  have hz := b1.size
  simp at hz
  clear b1
  rw [e1]
  go_wp2
  go_ret
  exact ⟨ret_bool (by simp [edgeOk, e1]), (by repeat (first | exact Below.refl _ _ | (refine Below.setCell ?_ (by first | omega | (simp <;> omega)) _) | (refine bel_drewN ?_ _) | (refine Below.drew ?_) | (refine Below.alloc ?_ (by first | omega | (simp <;> omega)) _) | (refine Below.trans ?_ (Below.mono (Hid.out B1) (by first | omega | (simp <;> omega))))))⟩
 ·go_enter Tryz.func130, Tryz.ntmps130
  go_wp2_with fail
  refine (grHas_any _ _ _ _ _ _ _).mono ?_
  rintro e w1 ⟨rfl, b1⟩
  have B1 := Lib.hid b1
  obtain ⟨hc, hf⟩ := bcell b1
  have hz := b1.size
  simp at hz
  clear b1
  rw [e1]
  go_wp2_with fail
  refine (grHas_any _ _ _ _ _ _ _).mono ?_
  rintro e w2 ⟨rfl, b2⟩
  have B2 := Lib.hid b2
  obtain ⟨hc2, hf2⟩ := bcell b2
  have hz2 := b2.size
  have k0 : w2.cell? ⟨w.heap.size, 0, none⟩ = some (.int .i64 r) := by rw [hc2 _ _ (by omega), hc _ _ (by simp; omega)]; simp [go_sem]
  have k1 : w2.cell? ⟨w.heap.size + 1, 1, none⟩ = some (.int .i64 y) := by rw [hc2 _ _ (by omega), hc _ _ (by simp)]; simp [go_sem]
  clear b2 hc hf hc2 hf2
  rcases e2 : inB z 0 (wrap64 (n - 1)) with _ | _
  ·go_wp2
   go_ret
   exact ⟨ret_bool (by simp [edgeOk, e1, e2]), (by repeat (first | exact Below.refl _ _ | (refine Below.setCell ?_ (by first | omega | (simp <;> omega)) _) | (refine bel_drewN ?_ _) | (refine Below.drew ?_) | (refine Below.alloc ?_ (by first | omega | (simp <;> omega)) _) | (refine Below.trans ?_ (Below.mono (Hid.out B2) (by first | omega | (simp <;> omega)))) | (refine Below.trans ?_ (Below.mono (Hid.out B1) (by first | omega | (simp <;> omega))))))⟩
  ·go_wp2_with fail
   refine (within_any _ _ _ _).mono ?_
   rintro e w' ⟨rfl, rfl⟩
   rcases e3 : inB y 1 r with _ | _
   ·go_wp2
    go_ret
    exact ⟨ret_bool (by simp [edgeOk, e1, e2, e3]), (by repeat (first | exact Below.refl _ _ | (refine Below.setCell ?_ (by first | omega | (simp <;> omega)) _) | (refine bel_drewN ?_ _) | (refine Below.drew ?_) | (refine Below.alloc ?_ (by first | omega | (simp <;> omega)) _) | (refine Below.trans ?_ (Below.mono (Hid.out B2) (by first | omega | (simp <;> omega)))) | (refine Below.trans ?_ (Below.mono (Hid.out B1) (by first | omega | (simp <;> omega))))))⟩
   ·go_wp2
    go_ret
    exact ⟨ret_bool (by simp [edgeOk, e1, e2, e3]), (by repeat (first | exact Below.refl _ _ | (refine Below.setCell ?_ (by first | omega | (simp <;> omega)) _) | (refine bel_drewN ?_ _) | (refine Below.drew ?_) | (refine Below.alloc ?_ (by first | omega | (simp <;> omega)) _) | (refine Below.trans ?_ (Below.mono (Hid.out B2) (by first | omega | (simp <;> omega)))) | (refine Below.trans ?_ (Below.mono (Hid.out B1) (by first | omega | (simp <;> omega))))))⟩
end Go.Proofs.YtfadnkjlilhneaaGreat
