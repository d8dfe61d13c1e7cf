/- Lists of graphs: as arguments, copied, counted, compared. The helpers of the laws over graphs: copied, counted, compared. -/
import Derived.Test.YtfadnkjlilhneaaGreatGr
import Derived.Test.YtfadnkjlilhneaaGreatPut
import Derived.Test.YtfadnkjlilhneaaGreatMark
namespace Go.Proofs.YtfadnkjlilhneaaGreat
set_option maxRecDepth 20000
set_option linter.unusedVariables false
set_option linter.unusedSimpArgs false
open Go.RowKit

set_option maxHeartbeats 1000000 in
theorem toGraph_any (v : Value) (g : GrD) (w : World) (h : ArgG w v g) (hl : g.2.2.length ≤ 1048576) :
  Calls Tryz.prog 9 #[v] w fun e w' => ∃ r, e = .returned r ∧ OwG w' w.heap.size r g ∧ Below w.heap.size w w' := by
 obtain ⟨s, rfl, hd, hd2, ha⟩ := h
 obtain ⟨x, y, es⟩ := g
 have H := Lib.hid ha
 clear ha
 go_enter Tryz.func9, Tryz.ntmps9
 go_wp2_with fail
 refine (toEdgeS_any _ es _ ?_ hl).mono ?_
 ·exact (H.out.below ((Below.refl _ _).alloc (Nat.le_refl _) _)).below ((Below.refl _ _).alloc (Nat.le_refl _) _) |>.below ((Below.refl _ _).alloc (Nat.le_refl _) _)
 rintro e w1 ⟨r, rfl, o1, b1⟩
 have O1 := Lib.hid o1
 have B1 := Lib.hid b1
 obtain ⟨A1, cap1, rfl, _⟩ := OwE.form o1
 obtain ⟨hc, hf⟩ := bcell b1
 have hz : w.heap.size + 1 + 1 < w1.heap.size := by have := b1.size; simp at this; omega
 clear o1 b1
 go_wp2
 refine bodyPost_ret (v := .agg #[.int .i64 x, .int .i64 y, .slice A1 es.length cap1]) (by simp [results, Tryz.results9, go_sem, hc, hz]) rfl ⟨_, rfl, ⟨_, rfl, hd, hd2, ?_⟩, ?_⟩
 ·refine OwE.mono (base := w.heap.size + 1 + 1 + 1) ?_ (by omega)
  have O2 : Hid (OwE w1 (w.heap.size + 1 + 1 + 1) (.slice A1 es.length cap1) es) := Lib.hid (by simpa using O1.out)
  exact (by repeat (first | exact (Hid.out O2) | exact (Hid.out O2).drewN _ | (refine OwE.far ?_ (by first | omega | (simp <;> omega)) _) | (refine OwE.alloc ?_ _) | (refine OwE.drew ?_) | (refine OwE.drewN ?_ _)))
 ·exact (by repeat (first | exact Below.refl _ _ | (refine Below.setCell ?_ (by first | omega | (simp <;> omega)) _) | (refine bel_drewN ?_ _) | (refine Below.drew ?_) | (refine Below.alloc ?_ (by first | omega | (simp <;> omega)) _) | (refine Below.trans ?_ (Below.mono (Hid.out B1) (by first | omega | (simp <;> omega))))))
set_option maxHeartbeats 400000 in
theorem szEdgeS_any (v : Value) (es : List EdD) (k : Int) (w : World) (h : ArgE w v es) (hk : 0 ≤ k) (hk' : k ≤ 1048576) :
  Calls Tryz.prog 23 #[v, .int .i64 k] w fun e w' => e = .returned (.int .i64 (if k - es.length < 0 then -1 else k - es.length)) ∧ w = w' := by
 obtain ⟨A, cap, rfl, hc, hm, _⟩ := h
 unfold maxLen at hm
 by_cases h0 : k - (es.length : Int) < 0
 ·rw [if_pos h0]
  go_enter Tryz.func23, Tryz.ntmps23
  go_wp2
  go_ret
  exact ⟨rfl, rfl⟩
 ·rw [if_neg h0]
  go_enter Tryz.func23, Tryz.ntmps23
  go_wp2
  go_ret
  exact ⟨rfl, rfl⟩
set_option maxHeartbeats 400000 in
theorem szGraph_any (v : Value) (g : GrD) (k : Int) (w : World) (h : ArgG w v g) (hk : 0 ≤ k) (hk' : k ≤ 1048576) :
  Calls Tryz.prog 7 #[v, .int .i64 k] w fun e w' => e = .returned (.int .i64 (if k - g.2.2.length < 0 then -1 else k - g.2.2.length)) ∧ Below w.heap.size w w' := by
 obtain ⟨s, rfl, hd, hd2, ha⟩ := h
 obtain ⟨x, y, es⟩ := g
 have H := Lib.hid ha
 clear ha
 have hb : Below w.heap.size w (w.alloc (Obj.cells #[Value.int IntKind.i64 x, Value.int IntKind.i64 y, s] 24)) := (by repeat (first | exact Below.refl _ _ | (refine Below.setCell ?_ (by first | omega | (simp <;> omega)) _) | (refine bel_drewN ?_ _) | (refine Below.drew ?_) | (refine Below.alloc ?_ (by first | omega | (simp <;> omega)) _)))
 have hz := szEdgeS_any s es k _ (H.out.below hb) hk hk'
 by_cases h0 : k - (es.length : Int) < 0
 ·rw [if_pos h0] at hz ⊢
  have HZ := Lib.hid hz
  clear hz hb
  go_enter Tryz.func7, Tryz.ntmps7
  go_wp2_with fail
  refine HZ.out.mono ?_
  rintro e w1 ⟨rfl, rfl⟩
  go_wp2
  go_ret
  exact ⟨rfl, (by repeat (first | exact Below.refl _ _ | (refine Below.setCell ?_ (by first | omega | (simp <;> omega)) _) | (refine bel_drewN ?_ _) | (refine Below.drew ?_) | (refine Below.alloc ?_ (by first | omega | (simp <;> omega)) _)))⟩
 ·rw [if_neg h0] at hz ⊢
  have HZ := Lib.hid hz
  clear hz hb
  go_enter Tryz.func7, Tryz.ntmps7
  go_wp2_with fail
  refine HZ.out.mono ?_
  rintro e w1 ⟨rfl, rfl⟩
  go_wp2
  go_ret
  exact ⟨rfl, (by repeat (first | exact Below.refl _ _ | (refine Below.setCell ?_ (by first | omega | (simp <;> omega)) _) | (refine bel_drewN ?_ _) | (refine Below.drew ?_) | (refine Below.alloc ?_ (by first | omega | (simp <;> omega)) _)))⟩
set_option maxHeartbeats 400000 in
theorem eqEdge_any (a b : EdD) (w : World) :
  Calls Tryz.prog 75 #[.agg #[.int .i64 a.1, .int .i64 a.2.1, .int .i64 a.2.2], .agg #[.int .i64 b.1, .int .i64 b.2.1, .int .i64 b.2.2]] w fun e w' => e = .returned (.bool (decide (a = b))) ∧ Below w.heap.size w w' := by
 obtain ⟨x, y, z⟩ := a
 obtain ⟨x', y', z'⟩ := b
 go_enter Tryz.func75, Tryz.ntmps75
 go_wp2
 all_goals go_ret
 all_goals (refine ⟨ret_bool ?_, (by repeat (first | exact Below.refl _ _ | (refine Below.setCell ?_ (by first | omega | (simp <;> omega)) _) | (refine bel_drewN ?_ _) | (refine Below.drew ?_) | (refine Below.alloc ?_ (by first | omega | (simp <;> omega)) _)))⟩; simp_all)
set_option maxHeartbeats 1000000 in
theorem eqEdgeS_any (v u : Value) (ds ds' : List EdD) (w : World) (h : ArgE w v ds) (h' : ArgE w u ds') :
  Calls Tryz.prog 41 #[v, u] w fun e w' => e = .returned (.bool (decide (ds = ds'))) ∧ Below w.heap.size w w' := by
 have H := Lib.hid h
 have H' := Lib.hid h'
 obtain ⟨A, cap, rfl, hcap, hm, _⟩ := h
 obtain ⟨A', cap', rfl, hcap', hm', _⟩ := h'
 unfold maxLen at hm hm'
 by_cases hne : ds.length = ds'.length
 ·have hd : ((ds.length : Int) != (ds'.length : Int)) = false := by simp [hne]
  have HNE := Lib.hid hne
  clear hne
  go_enter Tryz.func41, Tryz.ntmps41
  go_wp2
  go_loopw [5] (fun i wr => ∃ k : Nat, k ≤ ds.length ∧ i = .int .i64 k ∧ ds.take k = ds'.take k ∧ Below w.heap.size w wr) (fun i _ => ds.length - (intOf i).toNat)
  case atStart => exact ⟨0, Nat.zero_le _, rfl, by simp, Below.refl _ _⟩
  case round =>
   obtain ⟨k, hk, rfl, heq, hbel⟩ := hrel
   have HEQ := Lib.hid heq
   have HB := Lib.hid hbel
   have hsz := hbel.size
   by_cases hlt : k < ds.length
   ·have hlt' : k < ds'.length := by have := HNE.out; omega
    obtain ⟨g, off, rfl, hg, c0, c1, c2, _⟩ := (H.out.below hbel).at hlt
    obtain ⟨g', off', rfl, hg', c0', c1', c2', _⟩ := (H'.out.below hbel).at hlt'
    have HQ : Hid (ds.take (k + 1) = ds'.take (k + 1) ↔ ds[k] = ds'[k]) := Lib.hid ⟨fun e => by
     have := congrArg (fun l => l[k]?) e
     simpa [hlt, hlt'] using this, fun e => take_eq_succ HEQ.out hlt hlt' e⟩
    have HN : Hid (ds[k] ≠ ds'[k] → ds ≠ ds') := Lib.hid (fun e1 e2 => by subst e2; exact e1 rfl)
    clear heq hbel
    generalize ds[k] = d at *
    generalize ds'[k] = d' at *
    go_wp2_with fail
    go_region_held3 (fun w' => w'.cell? ⟨g, off + k * 3, none⟩ = some (.int .i64 d.1) ∧ w'.cell? ⟨g, off + k * 3 + 1, none⟩ = some (.int .i64 d.2.1) ∧ w'.cell? ⟨g, off + k * 3 + 2, none⟩ = some (.int .i64 d.2.2) ∧ w'.cell? ⟨g', off' + k * 3, none⟩ = some (.int .i64 d'.1) ∧ w'.cell? ⟨g', off' + k * 3 + 1, none⟩ = some (.int .i64 d'.2.1) ∧ w'.cell? ⟨g', off' + k * 3 + 2, none⟩ = some (.int .i64 d'.2.2))
     (first | go_keep | exact ⟨q0, q1, q2, q3, q4, q5⟩)
     ((go_at_call 75; refine (eqEdge_any d d' _).mono ?_; rintro e w9 ⟨rfl, b9⟩; have B9 := Lib.hid b9; have q0 := (b9.cell (p := ⟨g, off + k * 3, none⟩) hg).trans c0; have q1 := (b9.cell (p := ⟨g, off + k * 3 + 1, none⟩) hg).trans c1; have q2 := (b9.cell (p := ⟨g, off + k * 3 + 2, none⟩) hg).trans c2; have q3 := (b9.cell (p := ⟨g', off' + k * 3, none⟩) hg').trans c0'; have q4 := (b9.cell (p := ⟨g', off' + k * 3 + 1, none⟩) hg').trans c1'; have q5 := (b9.cell (p := ⟨g', off' + k * 3 + 2, none⟩) hg').trans c2'; clear b9))
    rcases e2 : decide (d = d') with _ | _
    ·go_wp2
     go_ret
     exact ⟨ret_bool (by symm; rw [decide_eq_false_iff_not]; exact HN.out (by simpa using e2)), HB.out.trans ((Below.refl _ _).drew.trans (B9.out.mono hsz))⟩
    ·go_wp2
     go_roundw
     case rel => exact ⟨k + 1, by omega, by go_num, HQ.out.2 (by simpa using e2), HB.out.trans ((Below.refl _ _).drew.trans (B9.out.mono hsz))⟩
     case measure => simp [intOf]; omega
   ·obtain rfl : k = ds.length := by omega
    go_wp2
    go_ret
    refine ⟨ret_bool ?_, HB.out⟩
    have h1 := HEQ.out
    rw [List.take_length, HNE.out, List.take_length] at h1
    simp [h1]
 ·have hd : ((ds.length : Int) != (ds'.length : Int)) = true := by simp; omega
  go_enter Tryz.func41, Tryz.ntmps41
  go_wp2
  go_ret
  exact ⟨ret_bool (by symm; rw [decide_eq_false_iff_not]; rintro rfl; exact hne rfl), Below.refl _ _⟩
set_option maxHeartbeats 1000000 in
theorem eqGraph_any (v u : Value) (d d' : GrD) (w : World) (h : ArgG w v d) (h' : ArgG w u d') :
  Calls Tryz.prog 12 #[v, u] w fun e w' => e = .returned (.bool (decide (d = d'))) ∧ Below w.heap.size w w' := by
 obtain ⟨s, rfl, _, _, ha⟩ := h
 obtain ⟨s', rfl, _, _, ha'⟩ := h'
 obtain ⟨x, y, es⟩ := d
 obtain ⟨x', y', es'⟩ := d'
 have H := Lib.hid ha
 have H' := Lib.hid ha'
 obtain ⟨A, cap, rfl⟩ := ha.form
 obtain ⟨A', cap', rfl⟩ := ha'.form
 clear ha ha'
 rcases e1 : (x != x') with _ | _
 ·rcases e2 : (y != y') with _ | _
  ·have F : Hid (decide ((x, y, es) = (x', y', es')) = decide (es = es')) := Lib.hid (by simp at e1 e2; simp [e1, e2])
   go_enter Tryz.func12, Tryz.ntmps12
   go_wp2_with fail
   have hb : Below w.heap.size w ((w.alloc (Obj.cells #[Value.int IntKind.i64 x, Value.int IntKind.i64 y, .slice A es.length cap] 31)).alloc (Obj.cells #[Value.int IntKind.i64 x', Value.int IntKind.i64 y', .slice A' es'.length cap'] 31)) := (by repeat (first | exact Below.refl _ _ | (refine Below.setCell ?_ (by first | omega | (simp <;> omega)) _) | (refine bel_drewN ?_ _) | (refine Below.drew ?_) | (refine Below.alloc ?_ (by first | omega | (simp <;> omega)) _)))
   refine (eqEdgeS_any _ _ es es' _ (H.out.below hb) (H'.out.below hb)).mono ?_
   rintro e w1 ⟨rfl, b1⟩
   have B1 := Lib.hid (hb.trans (b1.mono hb.size))
   clear hb b1
   rcases e3 : decide (es = es') with _ | _
   ·go_wp2
    go_ret
    exact ⟨ret_bool (by rw [F.out, e3]), B1.out⟩
   ·go_wp2
    go_ret
    exact ⟨ret_bool (by rw [F.out, e3]), B1.out⟩
  ·go_enter Tryz.func12, Tryz.ntmps12
   go_wp2
   go_ret
   exact ⟨ret_bool (by simp at e2; simp [e2]), (by repeat (first | exact Below.refl _ _ | (refine Below.setCell ?_ (by first | omega | (simp <;> omega)) _) | (refine bel_drewN ?_ _) | (refine Below.drew ?_) | (refine Below.alloc ?_ (by first | omega | (simp <;> omega)) _)))⟩
 ·go_enter Tryz.func12, Tryz.ntmps12
  go_wp2
  go_ret
  exact ⟨ret_bool (by simp at e1; simp [e1]), (by repeat (first | exact Below.refl _ _ | (refine Below.setCell ?_ (by first | omega | (simp <;> omega)) _) | (refine bel_drewN ?_ _) | (refine Below.drew ?_) | (refine Below.alloc ?_ (by first | omega | (simp <;> omega)) _)))⟩
section
variable {w w' : World} {v : Value} {ds : List GrD} {lo hi : Nat}
end
end Go.Proofs.YtfadnkjlilhneaaGreat
