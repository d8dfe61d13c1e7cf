/- How far a word is read: the program's read. -/
import Derived.Test.YtfadnkjlilhneaaGreatWalk
import Derived.Test.YtfadnkjlilhneaaGreatTree
namespace Go.Proofs.YtfadnkjlilhneaaGreat
set_option maxRecDepth 20000
set_option linter.unusedVariables false
set_option linter.unusedSimpArgs false
open Go.RowKit

def readF (es : List EdD) : Int → List Int → Int × Nat
 | v, [] => (v, 0)
 | v, x :: w => if nextV es v x < 0 then (v, 0) else ((readF es (nextV es v x) w).1, (readF es (nextV es v x) w).2 + 1)
theorem readF_step (es : List EdD) (v : Int) (w : List Int) (k : Nat) (h : k < w.length) : readF es v (w.drop k) = if nextV es v w[k] < 0 then (v, 0) else ((readF es (nextV es v w[k]) (w.drop (k + 1))).1, (readF es (nextV es v w[k]) (w.drop (k + 1))).2 + 1) := by
 rw [List.drop_eq_getElem_cons h]
 rfl
theorem walk_read (es : List EdD) : ∀ (w : List Int) (v : Int), 0 ≤ v → (walkF es v w < 0 ∧ (readF es v w).2 < w.length) ∨ (0 ≤ walkF es v w ∧ (readF es v w).2 = w.length ∧ (readF es v w).1 = walkF es v w)
 | [], v, hv => .inr ⟨hv, rfl, rfl⟩
 | x :: w, v, hv => by
   unfold walkF readF
   by_cases h : nextV es v x < 0
   ·rw [if_pos h, if_pos h]
    exact .inl ⟨by decide, by simp⟩
   ·rw [if_neg h, if_neg h]
    rcases walk_read es w (nextV es v x) (by omega) with ⟨h1, h2⟩ | ⟨h1, h2, h3⟩
    ·exact .inl ⟨h1, by simp only [List.length_cons]; omega⟩
    ·exact .inr ⟨h1, by simp only [List.length_cons]; omega, h3⟩
set_option maxHeartbeats 1000000 in
theorem read_any (v vw : Value) (g : GrD) (u : Int) (ws : List Int) (w : World) (h : ArgG w v g) (hw : RdI w vw ws) (hf : foldB g = true) (hu : 0 ≤ u ∧ u < g.2.1) :
  Calls Tryz.prog 89 #[v, .int .i64 u, vw] w fun e w' => e = .returned (.tuple #[.int .i64 (readF g.2.2 u ws).1, .int .i64 ((readF g.2.2 u ws).2 : Nat)]) ∧ Below w.heap.size w w' := by
 have HG := Lib.hid h
 have HW := Lib.hid hw
 obtain ⟨hg, hfol⟩ := foldB_parts hf
 have ONE := Lib.hid (steps_one hfol)
 have LET := Lib.hid (let_of_gr hg)
 have NV : Hid (∀ v x, nextV g.2.2 v x = -1 ∨ (0 ≤ nextV g.2.2 v x ∧ nextV g.2.2 v x < g.2.1)) := Lib.hid fun v x => nextV_range hg v x
 obtain ⟨s, rfl, hi1, hi2, ha⟩ := h
 obtain ⟨A, cap, rfl⟩ := ha.form
 obtain ⟨Aw, capw, rfl, hcw, hmw, _⟩ := hw.arg
 unfold maxLen at hmw
 clear hf hg hfol ha hw
 have HR : Hid (readF g.2.2 u ws = ((readF g.2.2 u (ws.drop 0)).1, 0 + (readF g.2.2 u (ws.drop 0)).2)) := Lib.hid (by rw [List.drop_zero, Nat.zero_add])
 generalize readF g.2.2 u ws = R at *
 go_enter Tryz.func89, Tryz.ntmps89
 go_wp2_with fail
 have bx : Below w.heap.size w (w.alloc (Obj.cells #[Value.int IntKind.i64 g.1, Value.int IntKind.i64 g.2.1, .slice A g.2.2.length cap] 31)) := (by repeat (first | exact Below.refl _ _ | (refine Below.setCell ?_ (by first | omega | (simp <;> omega)) _) | (refine bel_drewN ?_ _) | (refine Below.drew ?_) | (refine Below.alloc ?_ (by first | omega | (simp <;> omega)) _)))
 have l0 : (w.alloc (Obj.cells #[Value.int IntKind.i64 g.1, Value.int IntKind.i64 g.2.1, .slice A g.2.2.length cap] 31)).cell? ⟨w.heap.size, 0, none⟩ = some (.int .i64 g.1) := by simp [go_sem]
 have l1 : (w.alloc (Obj.cells #[Value.int IntKind.i64 g.1, Value.int IntKind.i64 g.2.1, .slice A g.2.2.length cap] 31)).cell? ⟨w.heap.size, 1, none⟩ = some (.int .i64 g.2.1) := by simp [go_sem]
 have l2 : (w.alloc (Obj.cells #[Value.int IntKind.i64 g.1, Value.int IntKind.i64 g.2.1, .slice A g.2.2.length cap] 31)).cell? ⟨w.heap.size, 2, none⟩ = some (.slice A g.2.2.length cap) := by simp [go_sem]
 have sA : w.heap.size < (w.alloc (Obj.cells #[Value.int IntKind.i64 g.1, Value.int IntKind.i64 g.2.1, .slice A g.2.2.length cap] 31)).heap.size := by simp
 generalize w.alloc (Obj.cells #[Value.int IntKind.i64 g.1, Value.int IntKind.i64 g.2.1, .slice A g.2.2.length cap] 31) = W at bx l0 l1 l2 sA ⊢
 have BX := Lib.hid bx
 have HA : Hid (∀ w', Below W.heap.size W w' → ArgG w' (.agg #[.int .i64 g.1, .int .i64 g.2.1, .slice A g.2.2.length cap]) g) := Lib.hid fun w' hb => HG.out.below (BX.out.trans (hb.mono (by omega)))
 have L0 := Lib.hid l0
 have L1 := Lib.hid l1
 have L2 := Lib.hid l2
 clear bx l0 l1 l2
 go_loopw [1, 13] (fun a i wr => ∃ (k : Nat) (u' : Int), k ≤ ws.length ∧ i = .int .i64 k ∧ a = .int .i64 u' ∧ (0 ≤ u' ∧ u' < g.2.1) ∧ R = ((readF g.2.2 u' (ws.drop k)).1, k + (readF g.2.2 u' (ws.drop k)).2) ∧ Below W.heap.size W wr) (fun _ i _ => ws.length - (intOf i).toNat)
 case atStart => exact ⟨0, u, Nat.zero_le _, rfl, rfl, hu, HR.out, Below.refl _ _⟩
 case round =>
  obtain ⟨k, u', hk, rfl, rfl, hu', hR, hbel⟩ := hrel
  have HB := Lib.hid hbel
  have HRk := Lib.hid hR
  have hs := hbel.size
  have q0 := (hbel.cell (p := ⟨w.heap.size, 0, none⟩) sA).trans L0.out
  have q1 := (hbel.cell (p := ⟨w.heap.size, 1, none⟩) sA).trans L1.out
  have q2 := (hbel.cell (p := ⟨w.heap.size, 2, none⟩) sA).trans L2.out
  by_cases hlt : k < ws.length
  ·have HRW := Lib.hid (HW.out.below (BX.out.trans (hbel.mono (by omega))))
   obtain ⟨bw, offw, rfl, hbw, hcw2⟩ := HRW.out.at (by omega)
   have c0 := hcw2 k hlt
   have ST := Lib.hid (readF_step g.2.2 u' ws k hlt)
   generalize ws[k] = x at c0 ST
   have NX := Lib.hid (NV.out u' x)
   have HNX := Lib.hid (implNextVertex_any _ g u' x wr (HA.out _ hbel) (ONE.out u' x) LET.out)
   clear hbel hR hcw2
   go_wp2_with fail
   refine HNX.out.mono ?_
   rintro e wq ⟨rfl, bq⟩
   have HQ := Lib.hid (HB.out.trans (bq.mono (by omega)))
   clear bq HNX q0 q1 q2 c0
   generalize nextV g.2.2 u' x = y at *
   rcases NX.out with hy | hy
   ·subst hy
    have F : Hid (R = (u', k)) := Lib.hid (by rw [HRk.out, ST.out]; rfl)
    go_wp2
    exact bodyPost_ret (v := .tuple #[.int .i64 u', .int .i64 k]) (by simp [results, Tryz.results89]) rfl ⟨by rw [F.out], BX.out.trans (HQ.out.mono (by omega))⟩
   ·have hy0 : ¬ y < 0 := by omega
    have F : Hid (R = ((readF g.2.2 y (ws.drop (k + 1))).1, (k + 1) + (readF g.2.2 y (ws.drop (k + 1))).2)) := Lib.hid (by
     rw [HRk.out, ST.out, if_neg hy0]
     simp only
     rw [Nat.add_assoc, Nat.add_comm 1])
    go_wp2
    go_roundw
    case rel => exact ⟨k + 1, y, by omega, by go_num, rfl, hy, F.out, HQ.out⟩
    case measure => simp [intOf]; omega
  ·obtain rfl : k = ws.length := by omega
   have F : Hid (R = (u', ws.length)) := Lib.hid (by rw [HRk.out, List.drop_length]; rfl)
   clear hbel hR
   go_wp2
   exact bodyPost_ret (v := .tuple #[.int .i64 u', .int .i64 ws.length]) (by simp [results, Tryz.results89]) rfl ⟨by rw [F.out], BX.out.trans (HB.out.mono (by omega))⟩
end Go.Proofs.YtfadnkjlilhneaaGreat
