/- The reference's FoldOnce, FoldAll, TrimGraph, CoreGraph. The reference's FirstFold, MergeVertices, FoldOnce, FoldAll. Folding a graph: the reference's functions. -/
import Derived.Test.YtfadnkjlilhneaaGreatFoldP
namespace Go.Proofs.YtfadnkjlilhneaaGreat
set_option maxRecDepth 20000
set_option linter.unusedVariables false
set_option linter.unusedSimpArgs false
open Go.RowKit

def foC (f : FoD) : List Value := [.int .i64 f.1, .int .i64 f.2]
def foCs (l : List FoD) : List Value := (l.map foC).flatten
theorem foCs_snoc (l : List FoD) (f : FoD) : foCs (l ++ [f]) = foCs l ++ foC f := by simp [foCs]
def OwFo (w : World) (base : Nat) (v : Value) (l : List FoD) : Prop := w.ownsRow base 128 2 v l.length (foCs l)
section
variable {w w' : World} {base : Nat} {v : Value} {l : List FoD}
theorem OwFo.below (h : OwFo w base v l) (hb : Below w.heap.size w w') : OwFo w' base v l := ownsRow_below h hb
theorem OwFo.alloc (h : OwFo w base v l) (o : Obj) : OwFo (w.alloc o) base v l := World.ownsRow.alloc h o
theorem OwFo.mono {base' : Nat} (h : OwFo w base v l) (hb : base' ≤ base) : OwFo w base' v l := by
 refine ⟨h.1, ?_⟩
 rcases h.2 with h0 | ⟨g, cap, cur, hv, hg, r⟩
 ·exact .inl h0
 ·exact .inr ⟨g, cap, cur, hv, Nat.le_trans hb hg, r⟩
theorem OwFo.form (h : OwFo w base v l) : ∃ A cap, v = .slice A l.length cap ∧ l.length ≤ cap ∧ cap ≤ maxLen ∧ (A = none → cap = 0) ∧ (0 < l.length → ∃ g, A = some ⟨g, 0, none⟩ ∧ base ≤ g ∧ g < w.heap.size) := owns_form h
end
theorem fold_info : (Tryz.prog.info? 128).map (fun i => (i.zero, i.size, i.bytes)) = some (some (.agg #[.int .i64 0, .int .i64 0]), 2, 16) := by kernel_rfl
theorem push_fold {w : World} {ops : Array Oper} {rest : List Oper} {o : Oper} {a : Act} {R : Exit → Act → World → Prop} (hgd : o.guard = none) (s x : Operand)
  (ho : o.op = .call { callee := .builtin .append, args := #[s, x], argTypes := #[114, 114] })
  (base : Nat) (v : Value) (l : List FoD) (hown : OwFo w base v l) (hs : a.eval s = v) (b : Nat) (f : FoD) (hx : a.eval x = .slice (some ⟨b, 0, none⟩) 1 1)
  (hc : ∀ j u, (foC f)[j]? = some u → w.cell? ⟨b, j, none⟩ = some u) (hl : l.length ≤ 1073741824) (hbase : base ≤ w.heap.size)
  (h : ∀ v' w', OwFo w' base v' (l ++ [f]) → w.grownBy w' v.ownBlock → (v'.ownBlock = v.ownBlock ∨ v'.ownBlock = some w.heap.size) → wpList Tryz.prog ops R rest (a.put o.dst v') w') :
  wpList Tryz.prog ops R (o :: rest) a w := by
 obtain ⟨i0, hi0, hz0, hz1, hz2⟩ := info_parts fold_info
 refine wpList_append_own_at _ hgd s x 114 ho base 128 i0 _ 2 16 Tryz.underlying114 hi0 hz0 hz1 hz2 rfl (by decide) v l.length (foCs l) hs hown ⟨b, 0, none⟩ 1 1 (foC f) hx rfl ?_ ?_ (by unfold maxLen; omega) (by omega) hbase ?_
 ·intro j u hj
  rw [Addr.add_lit, Nat.zero_add]
  exact hc j u hj
 ·intro u hu
  simp [foC] at hu
  rcases hu with rfl | rfl <;> rfl
 ·intro v' w' h1 h2 h3 h5
  refine h v' w' ?_ h2 h5
  unfold OwFo
  rw [foCs_snoc, List.length_append]
  exact h1
theorem fo_lit (w : World) (a b : Value) (t : TypeId) : ∀ j u, [a, b][j]? = some u → (w.alloc (.cells #[a, b] t)).cell? ⟨w.heap.size, j, none⟩ = some u := by
 intro j u hj
 match j, hj with
 | 0, hj => simp at hj; subst hj; simp [go_sem]
 | 1, hj => simp at hj; subst hj; simp [go_sem]
theorem fo_litN (w : World) (N : Nat) (hN : w.heap.size = N) (a b : Value) (t : TypeId) : ∀ j u, [a, b][j]? = some u → (w.alloc (.cells #[a, b] t)).cell? ⟨N, j, none⟩ = some u := by
 subst hN; exact fo_lit w a b t
theorem grown_cellF {w w' : World} {row : Option Nat} (hg : w.grownBy w' row) {b o : Nat} (hlt : b < w.heap.size) (hne : ∀ c, row = some c → c ≠ b) : w'.cell? ⟨b, o, none⟩ = w.cell? ⟨b, o, none⟩ :=
 World.cell?_of_block (hg.block b hlt fun e => hne b e.symm rfl)
theorem OwFo_lit (w : World) {base : Nat} (h : base ≤ w.heap.size) : OwFo (w.alloc (.cells #[] 128)) base (.slice (some ⟨w.heap.size, 0, none⟩) 0 0) [] := by
 have := World.ownsRow_lit (e := 128) (size := 2) (base := base) w #[] 0 h (by unfold maxLen; omega) (by simp)
 simpa [OwFo, foCs] using this
set_option maxHeartbeats 1000000 in
theorem l7Folds_any (v : Value) (g : GrD) (w : World) (h : ArgG w v g) (hl : g.2.2.length ≤ 120) :
  Calls Tryz.prog 173 #[v] w fun e w' => ∃ r, e = .returned r ∧ OwFo w' w.heap.size r (foL g.2.2) ∧ Below w.heap.size w w' := by
 obtain ⟨s, rfl, hi1, hi2, ha⟩ := h
 obtain ⟨A, cap, rfl⟩ := ha.form
 obtain ⟨g1, N, es⟩ := g
 simp only at *
 have HAE := Lib.hid ha
 clear ha
 have HUL := Lib.hid (foUp_len es)
 have HAL := Lib.hid (foAt_len es)
 go_enter Tryz.func173, Tryz.ntmps173
 have bx : Below w.heap.size w ((w.alloc (Obj.cells #[Value.int IntKind.i64 g1, Value.int IntKind.i64 N, .slice A es.length cap] 31)).alloc (.cells #[] 128)) := (by repeat (first | exact Below.refl _ _ | (refine Below.setCell ?_ (by first | omega | (simp <;> omega)) _) | (refine bel_drewN ?_ _) | (refine Below.drew ?_) | (refine Below.alloc ?_ (by first | omega | (simp <;> omega)) _)))
 have HOU : Hid (OwFo ((w.alloc (Obj.cells #[Value.int IntKind.i64 g1, Value.int IntKind.i64 N, .slice A es.length cap] 31)).alloc (.cells #[] 128)) (w.heap.size + 1) (.slice (some ⟨w.heap.size + 1, 0, none⟩) 0 0) []) := Lib.hid (by
  have := OwFo_lit (base := w.heap.size + 1) (w.alloc (Obj.cells #[Value.int IntKind.i64 g1, Value.int IntKind.i64 N, .slice A es.length cap] 31)) (by simp)
  simpa using this)
 go_wp2
 obtain ⟨W, hW⟩ : ∃ W, W = (w.alloc (Obj.cells #[Value.int IntKind.i64 g1, Value.int IntKind.i64 N, .slice A es.length cap] 31)).alloc (.cells #[] 128) := ⟨_, rfl⟩
 rw [← hW] at bx HOU ⊢
 have hsW : W.heap.size = w.heap.size + 2 := by rw [hW]; simp
 have L2 : Hid (W.cell? ⟨w.heap.size, 2, none⟩ = some (.slice A es.length cap)) := Lib.hid (by rw [hW]; simp [go_sem])
 have BX := Lib.hid bx
 have HA : Hid (∀ w', Below (w.heap.size + 1) W w' → ArgE w' (.slice A es.length cap) es) := Lib.hid fun w' hb => HAE.out.below (BX.out.trans (hb.mono (by omega)))
 clear hW bx
 go_loopw [3, 4] (fun out i wr => ∃ k : Nat, k ≤ es.length ∧ i = .int .i64 k ∧ OwFo wr (w.heap.size + 1) out (foUp es k) ∧ Below (w.heap.size + 1) W wr) (fun _ i _ => es.length - (intOf i).toNat)
 case atStart => exact ⟨0, Nat.zero_le _, rfl, HOU.out, (Below.refl W.heap.size W).mono (by omega)⟩
 case round =>
  obtain ⟨i, hi, rfl, ho, hb⟩ := hrel
  have HO := Lib.hid ho
  have HB := Lib.hid hb
  obtain ⟨wi, rfl⟩ : ∃ wi : World, wi = wr := ⟨_, rfl⟩
  clear ho hb
  have q2 := (HB.out.cell (p := ⟨w.heap.size, 2, none⟩) (by show w.heap.size < w.heap.size + 1; omega)).trans L2.out
  by_cases hlt : i < es.length
  ·have HO1 : Hid (OwFo wi (w.heap.size + 1) u3 (foUp es i ++ foAt es i (i + 1))) := Lib.hid (by rw [foAt_start, List.append_nil]; exact HO.out)
   have HFU := Lib.hid (show foUp es (i + 1) = foUp es i ++ foAt es i es.length from rfl)
   have hiI : (i : Int) < (es.length : Int) := by omega
   go_wp2
   go_loopw [3, 5] (fun out k wr => ∃ j : Nat, i < j ∧ j ≤ es.length ∧ k = .int .i64 j ∧ OwFo wr (w.heap.size + 1) out (foUp es i ++ foAt es i j) ∧ Below (w.heap.size + 1) W wr) (fun _ k _ => es.length - (intOf k).toNat)
   case atStart => exact ⟨i + 1, by omega, by omega, by go_num, HO1.out, HB.out⟩
   case round =>
    obtain ⟨j, hij, hj, rfl, ho, hb⟩ := hrel
    have HO2 := Lib.hid ho
    have HB2 := Lib.hid hb
    obtain ⟨wj, rfl⟩ : ∃ wj : World, wj = wr := ⟨_, rfl⟩
    clear ho hb q2
    have q2 := (HB2.out.cell (p := ⟨w.heap.size, 2, none⟩) (by show w.heap.size < w.heap.size + 1; omega)).trans L2.out
    by_cases hlt2 : j < es.length
    ·obtain ⟨b, off, rfl, hbw, a0, a1, a2, _⟩ := (HA.out wj HB2.out).at hlt
     obtain ⟨b', off', hA, _, c0, c1, c2, _⟩ := (HA.out wj HB2.out).at hlt2
     injection hA with hA
     injection hA with e1 e2
     subst e1 e2
     have HST := Lib.hid (foAt_succ es i j hlt2 hij)
     rw [show es.getD i (0, 0, 0) = es[i] by simp [List.getD, hlt]] at HST
     have hln : (foUp es i ++ foAt es i j).length ≤ 1000000 := by
      have h1 := HUL.out i
      have h2 := HAL.out i j
      have h3 : 2 * es.length * i ≤ 240 * 120 := Nat.mul_le_mul (by omega) (by omega)
      rw [List.length_append]
      omega
     have hbase := HB2.out.size
     generalize es[i] = d at *
     generalize es[j] = d' at *
     obtain ⟨d1, d2, d3⟩ := d
     obtain ⟨f1, f2, f3⟩ := d'
     simp only at a0 a1 a2 c0 c1 c2
     have hjI : (j : Int) < (es.length : Int) := by omega
     generalize foAt es i j = FA at *
     have hwj : w.heap.size < wj.heap.size := by omega
     have bA : Below wj.heap.size wj (wj.alloc (Obj.cells #[Value.int IntKind.i64 d1, Value.int IntKind.i64 d2, Value.int IntKind.i64 d3] 54)) := (Below.refl _ _).alloc (Nat.le_refl _) _
     have q2' := (bA.cell (p := ⟨w.heap.size, 2, none⟩) hwj).trans q2
     have c0' := (bA.cell (p := ⟨b, off + j * 3, none⟩) hbw).trans c0
     have c1' := (bA.cell (p := ⟨b, off + j * 3 + 1, none⟩) hbw).trans c1
     have c2' := (bA.cell (p := ⟨b, off + j * 3 + 2, none⟩) hbw).trans c2
     clear bA
     rcases e1 : (d2 == f2) with _ | _
     ·have HE : Hid (foAt es i (j + 1) = FA) := Lib.hid (by have hne : d2 ≠ f2 := (by simpa using e1); rw [HST.out]; simp [fo2, hne])
      go_wp2
      go_roundw
      case rel => exact ⟨j + 1, by omega, by omega, by go_num, by rw [HE.out]; exact (HO2.out.alloc _).alloc _, ((HB2.out.alloc (by omega) _).alloc (by simp; omega) _)⟩
      case measure => simp [intOf]; omega
     have HBW : Hid (Below (w.heap.size + 1) W ((wj.alloc (Obj.cells #[Value.int IntKind.i64 d1, Value.int IntKind.i64 d2, Value.int IntKind.i64 d3] 54)).alloc (Obj.cells #[Value.int IntKind.i64 f1, Value.int IntKind.i64 f2, Value.int IntKind.i64 f3] 54))) := Lib.hid ((HB2.out.alloc (by omega) _).alloc (by simp; omega) _)
     rcases e2 : (d1 == f1) with _ | _
     ·rcases e3 : (d3 == f3) with _ | _
      ·have HE : Hid (foUp es i ++ foAt es i (j + 1) = foUp es i ++ FA) := Lib.hid (by have h1 : d2 = f2 := (by simpa using e1); have h2 : ¬ d1 = f1 := (by simpa using e2); have h3 : ¬ d3 = f3 := (by simpa using e3); rw [HST.out]; simp [fo2, h1, h2, h3])
       go_wp2
       go_roundw
       case rel => exact ⟨j + 1, by omega, by omega, by go_num, by rw [HE.out]; exact (HO2.out.alloc _).alloc _, HBW.out⟩
       case measure => simp [intOf]; omega
      ·have HE : Hid (foUp es i ++ foAt es i (j + 1) = (foUp es i ++ FA) ++ [(min d1 f1, max d1 f1)]) := Lib.hid (by have h1 : d2 = f2 := (by simpa using e1); have h2 : ¬ d1 = f1 := (by simpa using e2); have h3 : d3 = f3 := (by simpa using e3); rw [HST.out]; simp [fo2, h1, h2, h3])
       go_wp2_with (at_builtin; refine push_fold rfl (.tmp 73) (.tmp 85) rfl (w.heap.size + 1) _ _ (((HO2.out.alloc _).alloc _).alloc _) rfl _ (min d1 f1, max d1 f1) rfl (fo_litN _ _ (by simp) _ _ _) (by omega) (by simp <;> omega) ?_; intro v6 w6 o6 g6 p6; have O6 := Lib.hid o6; have B6 : Hid (Below (w.heap.size + 1) W w6) := Lib.hid ((HBW.out.alloc (by simp <;> omega) (Obj.cells #[Value.int IntKind.i64 (min d1 f1), Value.int IntKind.i64 (max d1 f1)] 128)).grown g6 (by simp <;> omega) (fun k hk => (HO2.out.lt k hk).1)); clear o6 g6 p6)
       go_roundw
       case rel => exact ⟨j + 1, by omega, by omega, by go_num, by rw [HE.out]; exact O6.out, B6.out⟩
       case measure => simp [intOf]; omega
     ·rcases e3 : (d3 == f3) with _ | _
      ·have HE : Hid (foUp es i ++ foAt es i (j + 1) = (foUp es i ++ FA) ++ [(min d3 f3, max d3 f3)]) := Lib.hid (by have h1 : d2 = f2 := (by simpa using e1); have h2 : d1 = f1 := (by simpa using e2); have h3 : ¬ d3 = f3 := (by simpa using e3); rw [HST.out]; simp [fo2, h1, h2, h3])
       go_wp2_with (at_builtin; refine push_fold rfl (.tmp 47) (.tmp 59) rfl (w.heap.size + 1) _ _ (((HO2.out.alloc _).alloc _).alloc _) rfl _ (min d3 f3, max d3 f3) rfl (fo_litN _ _ (by simp) _ _ _) (by omega) (by simp <;> omega) ?_; intro v5 w5 o5 g5 p5; have k0 := (grown_cellF g5 (b := wj.heap.size) (o := 0) (by simp <;> omega) (fun c hc => by have := (HO2.out.lt c hc).2; omega)).trans (show (((wj.alloc (Obj.cells #[Value.int IntKind.i64 d1, Value.int IntKind.i64 d2, Value.int IntKind.i64 d3] 54)).alloc (Obj.cells #[Value.int IntKind.i64 f1, Value.int IntKind.i64 f2, Value.int IntKind.i64 f3] 54)).alloc (Obj.cells #[Value.int IntKind.i64 (min d3 f3), Value.int IntKind.i64 (max d3 f3)] 128)).cell? _ = some (.int .i64 d1) by simp [go_sem]); have k1 := (grown_cellF g5 (b := wj.heap.size) (o := 1) (by simp <;> omega) (fun c hc => by have := (HO2.out.lt c hc).2; omega)).trans (show (((wj.alloc (Obj.cells #[Value.int IntKind.i64 d1, Value.int IntKind.i64 d2, Value.int IntKind.i64 d3] 54)).alloc (Obj.cells #[Value.int IntKind.i64 f1, Value.int IntKind.i64 f2, Value.int IntKind.i64 f3] 54)).alloc (Obj.cells #[Value.int IntKind.i64 (min d3 f3), Value.int IntKind.i64 (max d3 f3)] 128)).cell? _ = some (.int .i64 d2) by simp [go_sem]); have k2 := (grown_cellF g5 (b := wj.heap.size) (o := 2) (by simp <;> omega) (fun c hc => by have := (HO2.out.lt c hc).2; omega)).trans (show (((wj.alloc (Obj.cells #[Value.int IntKind.i64 d1, Value.int IntKind.i64 d2, Value.int IntKind.i64 d3] 54)).alloc (Obj.cells #[Value.int IntKind.i64 f1, Value.int IntKind.i64 f2, Value.int IntKind.i64 f3] 54)).alloc (Obj.cells #[Value.int IntKind.i64 (min d3 f3), Value.int IntKind.i64 (max d3 f3)] 128)).cell? _ = some (.int .i64 d3) by simp [go_sem]); have k3 := (grown_cellF g5 (b := wj.heap.size + 1) (o := 0) (by simp <;> omega) (fun c hc => by have := (HO2.out.lt c hc).2; omega)).trans (show (((wj.alloc (Obj.cells #[Value.int IntKind.i64 d1, Value.int IntKind.i64 d2, Value.int IntKind.i64 d3] 54)).alloc (Obj.cells #[Value.int IntKind.i64 f1, Value.int IntKind.i64 f2, Value.int IntKind.i64 f3] 54)).alloc (Obj.cells #[Value.int IntKind.i64 (min d3 f3), Value.int IntKind.i64 (max d3 f3)] 128)).cell? _ = some (.int .i64 f1) by simp [go_sem]); have k4 := (grown_cellF g5 (b := wj.heap.size + 1) (o := 1) (by simp <;> omega) (fun c hc => by have := (HO2.out.lt c hc).2; omega)).trans (show (((wj.alloc (Obj.cells #[Value.int IntKind.i64 d1, Value.int IntKind.i64 d2, Value.int IntKind.i64 d3] 54)).alloc (Obj.cells #[Value.int IntKind.i64 f1, Value.int IntKind.i64 f2, Value.int IntKind.i64 f3] 54)).alloc (Obj.cells #[Value.int IntKind.i64 (min d3 f3), Value.int IntKind.i64 (max d3 f3)] 128)).cell? _ = some (.int .i64 f2) by simp [go_sem]); have k5 := (grown_cellF g5 (b := wj.heap.size + 1) (o := 2) (by simp <;> omega) (fun c hc => by have := (HO2.out.lt c hc).2; omega)).trans (show (((wj.alloc (Obj.cells #[Value.int IntKind.i64 d1, Value.int IntKind.i64 d2, Value.int IntKind.i64 d3] 54)).alloc (Obj.cells #[Value.int IntKind.i64 f1, Value.int IntKind.i64 f2, Value.int IntKind.i64 f3] 54)).alloc (Obj.cells #[Value.int IntKind.i64 (min d3 f3), Value.int IntKind.i64 (max d3 f3)] 128)).cell? _ = some (.int .i64 f3) by simp [go_sem]); have O5 := Lib.hid o5; have B5 : Hid (Below (w.heap.size + 1) W w5) := Lib.hid ((HBW.out.alloc (by simp <;> omega) (Obj.cells #[Value.int IntKind.i64 (min d3 f3), Value.int IntKind.i64 (max d3 f3)] 128)).grown g5 (by simp <;> omega) (fun k hk => (HO2.out.lt k hk).1)); have hz5 := B5.out.size; clear o5 g5 p5)
       go_roundw
       case rel => exact ⟨j + 1, by omega, by omega, by go_num, by rw [HE.out]; exact O5.out, B5.out⟩
       case measure => simp [intOf]; omega
      ·have HE : Hid (foUp es i ++ foAt es i (j + 1) = ((foUp es i ++ FA) ++ [(min d3 f3, max d3 f3)]) ++ [(min d1 f1, max d1 f1)]) := Lib.hid (by have h1 : d2 = f2 := (by simpa using e1); have h2 : d1 = f1 := (by simpa using e2); have h3 : d3 = f3 := (by simpa using e3); rw [HST.out]; simp [fo2, h1, h2, h3])
       go_wp2_with (first | (at_builtin; refine push_fold rfl (.tmp 47) (.tmp 59) rfl (w.heap.size + 1) _ _ (((HO2.out.alloc _).alloc _).alloc _) rfl _ (min d3 f3, max d3 f3) rfl (fo_litN _ _ (by simp) _ _ _) (by omega) (by simp <;> omega) ?_; intro v5 w5 o5 g5 p5; have k0 := (grown_cellF g5 (b := wj.heap.size) (o := 0) (by simp <;> omega) (fun c hc => by have := (HO2.out.lt c hc).2; omega)).trans (show (((wj.alloc (Obj.cells #[Value.int IntKind.i64 d1, Value.int IntKind.i64 d2, Value.int IntKind.i64 d3] 54)).alloc (Obj.cells #[Value.int IntKind.i64 f1, Value.int IntKind.i64 f2, Value.int IntKind.i64 f3] 54)).alloc (Obj.cells #[Value.int IntKind.i64 (min d3 f3), Value.int IntKind.i64 (max d3 f3)] 128)).cell? _ = some (.int .i64 d1) by simp [go_sem]); have k1 := (grown_cellF g5 (b := wj.heap.size) (o := 1) (by simp <;> omega) (fun c hc => by have := (HO2.out.lt c hc).2; omega)).trans (show (((wj.alloc (Obj.cells #[Value.int IntKind.i64 d1, Value.int IntKind.i64 d2, Value.int IntKind.i64 d3] 54)).alloc (Obj.cells #[Value.int IntKind.i64 f1, Value.int IntKind.i64 f2, Value.int IntKind.i64 f3] 54)).alloc (Obj.cells #[Value.int IntKind.i64 (min d3 f3), Value.int IntKind.i64 (max d3 f3)] 128)).cell? _ = some (.int .i64 d2) by simp [go_sem]); have k2 := (grown_cellF g5 (b := wj.heap.size) (o := 2) (by simp <;> omega) (fun c hc => by have := (HO2.out.lt c hc).2; omega)).trans (show (((wj.alloc (Obj.cells #[Value.int IntKind.i64 d1, Value.int IntKind.i64 d2, Value.int IntKind.i64 d3] 54)).alloc (Obj.cells #[Value.int IntKind.i64 f1, Value.int IntKind.i64 f2, Value.int IntKind.i64 f3] 54)).alloc (Obj.cells #[Value.int IntKind.i64 (min d3 f3), Value.int IntKind.i64 (max d3 f3)] 128)).cell? _ = some (.int .i64 d3) by simp [go_sem]); have k3 := (grown_cellF g5 (b := wj.heap.size + 1) (o := 0) (by simp <;> omega) (fun c hc => by have := (HO2.out.lt c hc).2; omega)).trans (show (((wj.alloc (Obj.cells #[Value.int IntKind.i64 d1, Value.int IntKind.i64 d2, Value.int IntKind.i64 d3] 54)).alloc (Obj.cells #[Value.int IntKind.i64 f1, Value.int IntKind.i64 f2, Value.int IntKind.i64 f3] 54)).alloc (Obj.cells #[Value.int IntKind.i64 (min d3 f3), Value.int IntKind.i64 (max d3 f3)] 128)).cell? _ = some (.int .i64 f1) by simp [go_sem]); have k4 := (grown_cellF g5 (b := wj.heap.size + 1) (o := 1) (by simp <;> omega) (fun c hc => by have := (HO2.out.lt c hc).2; omega)).trans (show (((wj.alloc (Obj.cells #[Value.int IntKind.i64 d1, Value.int IntKind.i64 d2, Value.int IntKind.i64 d3] 54)).alloc (Obj.cells #[Value.int IntKind.i64 f1, Value.int IntKind.i64 f2, Value.int IntKind.i64 f3] 54)).alloc (Obj.cells #[Value.int IntKind.i64 (min d3 f3), Value.int IntKind.i64 (max d3 f3)] 128)).cell? _ = some (.int .i64 f2) by simp [go_sem]); have k5 := (grown_cellF g5 (b := wj.heap.size + 1) (o := 2) (by simp <;> omega) (fun c hc => by have := (HO2.out.lt c hc).2; omega)).trans (show (((wj.alloc (Obj.cells #[Value.int IntKind.i64 d1, Value.int IntKind.i64 d2, Value.int IntKind.i64 d3] 54)).alloc (Obj.cells #[Value.int IntKind.i64 f1, Value.int IntKind.i64 f2, Value.int IntKind.i64 f3] 54)).alloc (Obj.cells #[Value.int IntKind.i64 (min d3 f3), Value.int IntKind.i64 (max d3 f3)] 128)).cell? _ = some (.int .i64 f3) by simp [go_sem]); have O5 := Lib.hid o5; have B5 : Hid (Below (w.heap.size + 1) W w5) := Lib.hid ((HBW.out.alloc (by simp <;> omega) (Obj.cells #[Value.int IntKind.i64 (min d3 f3), Value.int IntKind.i64 (max d3 f3)] 128)).grown g5 (by simp <;> omega) (fun k hk => (HO2.out.lt k hk).1)); have hz5 := B5.out.size; clear o5 g5 p5) | (at_builtin; refine push_fold rfl (.tmp 73) (.tmp 85) rfl (w.heap.size + 1) _ _ (O5.out.alloc _) rfl _ (min d1 f1, max d1 f1) rfl (fo_litN _ _ (by simp) _ _ _) (by rw [List.length_append]; simp only [List.length_singleton]; omega) (by simp <;> omega) ?_; intro v6 w6 o6 g6 p6; have O6 := Lib.hid o6; have B6 : Hid (Below (w.heap.size + 1) W w6) := Lib.hid ((B5.out.alloc (by omega) (Obj.cells #[Value.int IntKind.i64 (min d1 f1), Value.int IntKind.i64 (max d1 f1)] 128)).grown g6 (by simp <;> omega) (fun k hk => (O5.out.lt k hk).1)); clear o6 g6 p6))
       go_roundw
       case rel => exact ⟨j + 1, by omega, by omega, by go_num, by rw [HE.out]; exact O6.out, B6.out⟩
       case measure => simp [intOf]; omega
    ·obtain rfl : j = es.length := by omega
     go_wp2
     go_roundw
     case rel => exact ⟨i + 1, by omega, by go_num, by rw [HFU.out]; exact HO2.out, HB2.out⟩
     case measure => simp [intOf]; omega
  ·obtain rfl : i = es.length := by omega
   obtain ⟨Ao, co, hov, _⟩ := HO.out.form
   subst hov
   have HOF := Lib.hid (HO.out.mono (show w.heap.size ≤ w.heap.size + 1 by omega))
   have HBF : Hid (Below w.heap.size w wi) := Lib.hid (BX.out.trans (HB.out.mono (by omega)))
   go_wp2
   go_ret
   exact ⟨_, rfl, HOF.out, HBF.out⟩
theorem cells2 {W : World} {b : Nat} {u0 u1 : Value} (x y : Value) (h0 : W.cell? ⟨b, 0, none⟩ = some u0) (h1 : W.cell? ⟨b, 1, none⟩ = some u1) :
  ((W.setCell ⟨b, 0, none⟩ x).setCell ⟨b, 1, none⟩ y).cell? ⟨b, 0, none⟩ = some x ∧ ((W.setCell ⟨b, 0, none⟩ x).setCell ⟨b, 1, none⟩ y).cell? ⟨b, 1, none⟩ = some y :=
 ⟨by rw [World.cell?_setCell_other _ _ _ _ (by simp), World.cell?_setCell_same _ _ _ h0], World.cell?_setCell_same _ _ _ ((World.cell?_setCell_other _ _ _ _ (by simp)).trans h1)⟩
def firF (g : GrD) : FoD × Bool := if grB g = true then (match foL g.2.2 with | [] => ((0, 0), false) | f :: _ => (f, true)) else ((0, 0), false)
theorem OwFo.head {w : World} {base g n cap : Nat} {f : FoD} {l : List FoD} (h : OwFo w base (.slice (some ⟨g, 0, none⟩) n cap) (f :: l)) : w.cell? ⟨g, 0, none⟩ = some (.int .i64 f.1) ∧ w.cell? ⟨g, 1, none⟩ = some (.int .i64 f.2) := by
 obtain rfl : n = (f :: l).length := by
  obtain ⟨_, _, hv, _⟩ := OwFo.form h
  injection hv
 have h' : w.ownsRow base 128 2 (.slice (some ⟨g, 0, none⟩) (f :: l).length cap) (f :: l).length (foCs (f :: l)) := h
 have e0 := World.ownsRow.cellAt h' 0 (by simp <;> omega)
 have e1 := World.ownsRow.cellAt h' 1 (by simp <;> omega)
 exact ⟨by rw [e0]; rfl, by rw [e1]; rfl⟩
set_option maxHeartbeats 1000000 in
theorem specFirstFold_any (v : Value) (g : GrD) (w : World) (h : ArgG w v g) :
  Calls Tryz.prog 155 #[v] w fun e w' => e = .returned (.tuple #[.agg #[.int .i64 (firF g).1.1, .int .i64 (firF g).1.2], .bool (firF g).2]) ∧ Below w.heap.size w w' := by
 have HG := Lib.hid h
 obtain ⟨s, rfl, hi1, hi2, ha⟩ := h
 obtain ⟨A, cap, rfl⟩ := ha.form
 obtain ⟨g1, N, es⟩ := g
 simp only at *
 clear ha
 go_enter Tryz.func155, Tryz.ntmps155
 have bx : Below w.heap.size w ((w.alloc (Obj.cells #[Value.int IntKind.i64 g1, Value.int IntKind.i64 N, .slice A es.length cap] 31)).alloc (Obj.cells #[Value.int IntKind.i64 0, Value.int IntKind.i64 0] 128)) := (by repeat (first | exact Below.refl _ _ | (refine Below.setCell ?_ (by first | omega | (simp <;> omega)) _) | (refine bel_drewN ?_ _) | (refine Below.drew ?_) | (refine Below.alloc ?_ (by first | omega | (simp <;> omega)) _)))
 go_wp2_with fail
 obtain ⟨W, hW⟩ : ∃ W, W = (w.alloc (Obj.cells #[Value.int IntKind.i64 g1, Value.int IntKind.i64 N, .slice A es.length cap] 31)).alloc (Obj.cells #[Value.int IntKind.i64 0, Value.int IntKind.i64 0] 128) := ⟨_, rfl⟩
 rw [← hW] at bx ⊢
 have hsW : W.heap.size = w.heap.size + 2 := by rw [hW]; simp
 have L0 : Hid (W.cell? ⟨w.heap.size, 0, none⟩ = some (.int .i64 g1)) := Lib.hid (by rw [hW]; simp [go_sem])
 have L1 : Hid (W.cell? ⟨w.heap.size, 1, none⟩ = some (.int .i64 N)) := Lib.hid (by rw [hW]; simp [go_sem])
 have L2 : Hid (W.cell? ⟨w.heap.size, 2, none⟩ = some (.slice A es.length cap)) := Lib.hid (by rw [hW]; simp [go_sem])
 have R0 : Hid (W.cell? ⟨w.heap.size + 1, 0, none⟩ = some (.int .i64 0)) := Lib.hid (by rw [hW]; simp [go_sem])
 have R1 : Hid (W.cell? ⟨w.heap.size + 1, 1, none⟩ = some (.int .i64 0)) := Lib.hid (by rw [hW]; simp [go_sem])
 have RF : Hid (∀ j, W.frozen? ⟨w.heap.size + 1, j, none⟩ = false) := Lib.hid fun j => by rw [hW]; simp [go_sem]
 have BX := Lib.hid bx
 have HA : Hid (∀ w', Below W.heap.size W w' → ArgG w' (.agg #[.int .i64 g1, .int .i64 N, .slice A es.length cap]) (g1, N, es)) := Lib.hid fun w' hb => HG.out.below (BX.out.trans (hb.mono BX.out.size))
 clear hW bx
 refine (specIsGraph_any _ (g1, N, es) W (HA.out _ (Below.refl _ _))).mono ?_
 rintro e w1 ⟨rfl, b1⟩
 have B1 := Lib.hid b1
 have hs1 := b1.size
 have q0 := (b1.cell (p := ⟨w.heap.size, 0, none⟩) (by show w.heap.size < _; omega)).trans L0.out
 have q1 := (b1.cell (p := ⟨w.heap.size, 1, none⟩) (by show w.heap.size < _; omega)).trans L1.out
 have q2 := (b1.cell (p := ⟨w.heap.size, 2, none⟩) (by show w.heap.size < _; omega)).trans L2.out
 have r0 := (b1.cell (p := ⟨w.heap.size + 1, 0, none⟩) (by show w.heap.size + 1 < _; omega)).trans R0.out
 have r1 := (b1.cell (p := ⟨w.heap.size + 1, 1, none⟩) (by show w.heap.size + 1 < _; omega)).trans R1.out
 have f0 := (b1.frozen (p := ⟨w.heap.size + 1, 0, none⟩) (by show w.heap.size + 1 < _; omega)).trans (RF.out 0)
 have f1 := (b1.frozen (p := ⟨w.heap.size + 1, 1, none⟩) (by show w.heap.size + 1 < _; omega)).trans (RF.out 1)
 clear b1
 rcases eg : grB (g1, N, es) with _ | _
 ·have F : Hid (firF (g1, N, es) = ((0, 0), false)) := Lib.hid (by unfold firF; rw [eg]; rfl)
  clear eg
  go_wp2
  obtain ⟨c0, c1⟩ := cells2 (.int .i64 0) (.int .i64 0) r0 r1
  rw [F.out]
  have HB : Hid (Below w.heap.size w ((w1.setCell ⟨w.heap.size + 1, 0, none⟩ (.int .i64 0)).setCell ⟨w.heap.size + 1, 1, none⟩ (.int .i64 0))) := Lib.hid (((BX.out.trans (B1.out.mono BX.out.size)).setCell (by simp) _).setCell (by simp) _)
  exact bodyPost_ret (v := .tuple #[.agg #[.int .i64 0, .int .i64 0], .bool false]) (by simp [results, Tryz.results155, go_sem, c0, c1]) rfl ⟨rfl, HB.out⟩
 have HGR := Lib.hid eg
 have h120 := (grB_parts eg).2.2.1
 simp only at h120
 go_wp2_with fail
 refine (l7Folds_any _ (g1, N, es) w1 (HA.out _ B1.out) h120).mono ?_
 rintro e w2 ⟨r, rfl, o2, b2⟩
 have O2 := Lib.hid o2
 have B2 := Lib.hid (B1.out.trans (b2.mono hs1))
 have hs2 := b2.size
 have k0 := (b2.cell (p := ⟨w.heap.size + 1, 0, none⟩) (by show w.heap.size + 1 < _; omega)).trans r0
 have k1 := (b2.cell (p := ⟨w.heap.size + 1, 1, none⟩) (by show w.heap.size + 1 < _; omega)).trans r1
 have j0 := (b2.frozen (p := ⟨w.heap.size + 1, 0, none⟩) (by show w.heap.size + 1 < _; omega)).trans f0
 have j1 := (b2.frozen (p := ⟨w.heap.size + 1, 1, none⟩) (by show w.heap.size + 1 < _; omega)).trans f1
 obtain ⟨A2, c2, rfl, h2, _, _, hg2⟩ := o2.form
 clear o2 b2 q0 q1 q2 r0 r1 f0 f1
 rcases ef : foL es with _ | ⟨f, l⟩
 ·have F : Hid (firF (g1, N, es) = ((0, 0), false)) := Lib.hid (by unfold firF; rw [if_pos HGR.out]; simp only [ef])
  simp only [ef, List.length_nil] at *
  go_wp2
  obtain ⟨c0, c1⟩ := cells2 (.int .i64 0) (.int .i64 0) k0 k1
  rw [F.out]
  have HB : Hid (Below w.heap.size w ((w2.setCell ⟨w.heap.size + 1, 0, none⟩ (.int .i64 0)).setCell ⟨w.heap.size + 1, 1, none⟩ (.int .i64 0))) := Lib.hid (((BX.out.trans (B2.out.mono BX.out.size)).setCell (by simp) _).setCell (by simp) _)
  exact bodyPost_ret (v := .tuple #[.agg #[.int .i64 0, .int .i64 0], .bool false]) (by simp [results, Tryz.results155, go_sem, c0, c1]) rfl ⟨rfl, HB.out⟩
 ·have F : Hid (firF (g1, N, es) = (f, true)) := Lib.hid (by unfold firF; rw [if_pos HGR.out]; simp only [ef])
  obtain ⟨g', rfl, _, _⟩ := hg2 (by simp only [ef]; simp)
  have O3 := O2.out
  simp only [ef] at O3
  obtain ⟨p0, p1⟩ := O3.head
  have hne : ¬ ((foL es).length : Int) = 0 := by rw [ef]; simp; omega
  have hpos : (0 : Int) < ((foL es).length : Int) := by omega
  have HEF := Lib.hid ef
  obtain ⟨fa, fb⟩ := f
  simp only at p0 p1
  clear ef O3
  generalize (foL es).length = nn at *
  go_wp2
  obtain ⟨c0, c1⟩ := cells2 (.int .i64 fa) (.int .i64 fb) k0 k1
  rw [F.out]
  have HB : Hid (Below w.heap.size w ((w2.setCell ⟨w.heap.size + 1, 0, none⟩ (.int .i64 fa)).setCell ⟨w.heap.size + 1, 1, none⟩ (.int .i64 fb))) := Lib.hid (((BX.out.trans (B2.out.mono BX.out.size)).setCell (by simp) _).setCell (by simp) _)
  exact bodyPost_ret (v := .tuple #[.agg #[.int .i64 fa, .int .i64 fb], .bool true]) (by simp [results, Tryz.results155, go_sem, c0, c1]) rfl ⟨rfl, HB.out⟩
theorem gbox {w W : World} {a b c : Value} {t : TypeId} (hW : W = w.alloc (.cells #[a, b, c] t)) : W.heap.size = w.heap.size + 1 ∧ Below w.heap.size w W ∧
  (∀ w', Below (w.heap.size + 1) W w' → w'.cell? ⟨w.heap.size, 0, none⟩ = some a ∧ w'.cell? ⟨w.heap.size, 1, none⟩ = some b ∧ w'.cell? ⟨w.heap.size, 2, none⟩ = some c) ∧ ∀ j w', Below (w.heap.size + 1) W w' → w'.frozen? ⟨w.heap.size, j, none⟩ = false := by
 have hs : W.heap.size = w.heap.size + 1 := by rw [hW]; simp
 have h0 : W.cell? ⟨w.heap.size, 0, none⟩ = some a := by rw [hW]; simp [go_sem]
 have h1 : W.cell? ⟨w.heap.size, 1, none⟩ = some b := by rw [hW]; simp [go_sem]
 have h2 : W.cell? ⟨w.heap.size, 2, none⟩ = some c := by rw [hW]; simp [go_sem]
 refine ⟨hs, by rw [hW]; exact (Below.refl _ _).alloc (Nat.le_refl _) _, fun w' hb => ⟨(hb.cell (p := ⟨w.heap.size, 0, none⟩) (Nat.lt_succ_self _)).trans h0, (hb.cell (p := ⟨w.heap.size, 1, none⟩) (Nat.lt_succ_self _)).trans h1, (hb.cell (p := ⟨w.heap.size, 2, none⟩) (Nat.lt_succ_self _)).trans h2⟩, fun j w' hb => (hb.frozen (p := ⟨w.heap.size, j, none⟩) (Nat.lt_succ_self _)).trans ?_⟩
 rw [hW]; simp [go_sem]
theorem cells3F {W : World} {b : Nat} {u0 u1 u2 : Value} (x y z : Value) (h0 : W.cell? ⟨b, 0, none⟩ = some u0) (h1 : W.cell? ⟨b, 1, none⟩ = some u1) (h2 : W.cell? ⟨b, 2, none⟩ = some u2) :
  (((W.setCell ⟨b, 0, none⟩ x).setCell ⟨b, 1, none⟩ y).setCell ⟨b, 2, none⟩ z).cell? ⟨b, 0, none⟩ = some x ∧ (((W.setCell ⟨b, 0, none⟩ x).setCell ⟨b, 1, none⟩ y).setCell ⟨b, 2, none⟩ z).cell? ⟨b, 1, none⟩ = some y ∧ (((W.setCell ⟨b, 0, none⟩ x).setCell ⟨b, 1, none⟩ y).setCell ⟨b, 2, none⟩ z).cell? ⟨b, 2, none⟩ = some z :=
 ⟨by rw [World.cell?_setCell_other _ _ _ _ (by simp), World.cell?_setCell_other _ _ _ _ (by simp), World.cell?_setCell_same _ _ _ h0],
  by rw [World.cell?_setCell_other _ _ _ _ (by simp)]; exact World.cell?_setCell_same _ _ _ ((World.cell?_setCell_other _ _ _ _ (by simp)).trans h1),
  World.cell?_setCell_same _ _ _ ((World.cell?_setCell_other _ _ _ _ (by simp)).trans ((World.cell?_setCell_other _ _ _ _ (by simp)).trans h2))⟩
theorem mer_succ (es : List EdD) (f : FoD) (k : Nat) (h : k < es.length) : srt cmpE ((es.take (k + 1)).map (plE f)) = insF cmpE (srt cmpE ((es.take k).map (plE f))) (plE f es[k]) := by
 rw [List.take_succ_eq_append_getElem h, List.map_append]
 unfold srt
 rw [List.foldl_append]
 rfl
theorem mer_len (es : List EdD) (f : FoD) (k : Nat) : (srt cmpE ((es.take k).map (plE f))).length ≤ es.length := by
 have := srt_len (c := cmpE) ((es.take k).map (plE f))
 rw [List.length_map, List.length_take] at this
 omega
theorem l7New_any (v : Int) (f : FoD) (w : World) (hv : 0 ≤ v ∧ v ≤ 1000) (hf : 0 ≤ f.1 ∧ f.1 < f.2 ∧ f.2 ≤ 1000) :
  Calls Tryz.prog 174 #[.int .i64 v, .agg #[.int .i64 f.1, .int .i64 f.2]] w fun e w' => e = .returned (.int .i64 (plF f v)) ∧ Below w.heap.size w w' := by
 obtain ⟨a, b⟩ := f
 simp only at hf ⊢
 have hw : IntKind.i64.wrap (v - 1) = v - 1 := by rw [IntKind.wrap_i64]; omega
 rcases e1 : (v == b) with _ | _
 ·have h1 : ¬ v = b := by simpa using e1
  rcases e2 : decide (b < v) with _ | _
  ·have h2 : ¬ b < v := by simpa using e2
   go_enter Tryz.func174, Tryz.ntmps174
   go_wp2
   go_ret
   exact ⟨ret_int (by unfold plF; rw [if_neg h1, if_neg (show ¬ b < v by omega)]), (by repeat (first | exact Below.refl _ _ | (refine Below.setCell ?_ (by first | omega | (simp <;> omega)) _) | (refine bel_drewN ?_ _) | (refine Below.drew ?_) | (refine Below.alloc ?_ (by first | omega | (simp <;> omega)) _)))⟩
  ·have h2 : b < v := by simpa using e2
   go_enter Tryz.func174, Tryz.ntmps174
   go_wp2
   go_ret
   exact ⟨by simp [plF, h1, h2], (by repeat (first | exact Below.refl _ _ | (refine Below.setCell ?_ (by first | omega | (simp <;> omega)) _) | (refine bel_drewN ?_ _) | (refine Below.drew ?_) | (refine Below.alloc ?_ (by first | omega | (simp <;> omega)) _)))⟩
 ·have h1 : v = b := by simpa using e1
  have e2 : decide (b < a) = false := by simp; omega
  go_enter Tryz.func174, Tryz.ntmps174
  go_wp2
  go_ret
  exact ⟨by simp [plF, h1], (by repeat (first | exact Below.refl _ _ | (refine Below.setCell ?_ (by first | omega | (simp <;> omega)) _) | (refine bel_drewN ?_ _) | (refine Below.drew ?_) | (refine Below.alloc ?_ (by first | omega | (simp <;> omega)) _)))⟩
set_option maxHeartbeats 1000000 in
theorem specMergeVertices_any (v : Value) (g : GrD) (f : FoD) (w : World) (h : ArgG w v g) (hg : grB g = true) (hf : 0 ≤ f.1 ∧ f.1 < f.2 ∧ f.2 < g.2.1) :
  Calls Tryz.prog 156 #[v, .agg #[.int .i64 f.1, .int .i64 f.2]] w fun e w' => ∃ r, e = .returned (.tuple #[r, .bool true]) ∧ OwG w' w.heap.size r (merG g f) ∧ Below w.heap.size w w' := by
 have HG := Lib.hid h
 have HGR := Lib.hid hg
 obtain ⟨h13, h40, h120, _⟩ := grB_parts hg
 have HED := Lib.hid fun e (he : e ∈ g.2.2) => edge_of_gr hg he
 obtain ⟨s, rfl, hi1, hi2, ha⟩ := h
 obtain ⟨A, cap, rfl⟩ := ha.form
 obtain ⟨g1, N, es⟩ := g
 obtain ⟨fa, fb⟩ := f
 simp only at *
 have HAE := Lib.hid ha
 clear ha hg
 have hN1 : IntKind.i64.wrap (N - 1) = N - 1 := by rw [IntKind.wrap_i64]; omega
 have hc1 : decide (fa < 0) = false := by simp; omega
 have hc2 : decide (fb ≤ fa) = false := by simp; omega
 have hc3 : decide (N ≤ fb) = false := by simp; omega
 go_enter Tryz.func156, Tryz.ntmps156
 have bx : Below w.heap.size w (((w.alloc (Obj.cells #[Value.int IntKind.i64 g1, Value.int IntKind.i64 N, .slice A es.length cap] 31)).alloc (Obj.cells #[Value.int IntKind.i64 fa, Value.int IntKind.i64 fb] 128)).alloc (Obj.cells #[Value.int IntKind.i64 0, Value.int IntKind.i64 0, .slice none 0 0] 31)) := (by repeat (first | exact Below.refl _ _ | (refine Below.setCell ?_ (by first | omega | (simp <;> omega)) _) | (refine bel_drewN ?_ _) | (refine Below.drew ?_) | (refine Below.alloc ?_ (by first | omega | (simp <;> omega)) _)))
 go_wp2_with fail
 obtain ⟨W, hW⟩ : ∃ W, W = (((w.alloc (Obj.cells #[Value.int IntKind.i64 g1, Value.int IntKind.i64 N, .slice A es.length cap] 31)).alloc (Obj.cells #[Value.int IntKind.i64 fa, Value.int IntKind.i64 fb] 128)).alloc (Obj.cells #[Value.int IntKind.i64 0, Value.int IntKind.i64 0, .slice none 0 0] 31)) := ⟨_, rfl⟩
 rw [← hW] at bx ⊢
 have hsW : W.heap.size = w.heap.size + 3 := by rw [hW]; simp
 have L0 : Hid (W.cell? ⟨w.heap.size, 0, none⟩ = some (.int .i64 g1)) := Lib.hid (by rw [hW]; simp [go_sem])
 have L1 : Hid (W.cell? ⟨w.heap.size, 1, none⟩ = some (.int .i64 N)) := Lib.hid (by rw [hW]; simp [go_sem])
 have L2 : Hid (W.cell? ⟨w.heap.size, 2, none⟩ = some (.slice A es.length cap)) := Lib.hid (by rw [hW]; simp [go_sem])
 have M0 : Hid (W.cell? ⟨w.heap.size + 1, 0, none⟩ = some (.int .i64 fa)) := Lib.hid (by rw [hW]; simp [go_sem])
 have M1 : Hid (W.cell? ⟨w.heap.size + 1, 1, none⟩ = some (.int .i64 fb)) := Lib.hid (by rw [hW]; simp [go_sem])
 have R0 : Hid (W.cell? ⟨w.heap.size + 1 + 1, 0, none⟩ = some (.int .i64 0)) := Lib.hid (by rw [hW]; simp [go_sem])
 have R1 : Hid (W.cell? ⟨w.heap.size + 1 + 1, 1, none⟩ = some (.int .i64 0)) := Lib.hid (by rw [hW]; simp [go_sem])
 have R2 : Hid (W.cell? ⟨w.heap.size + 1 + 1, 2, none⟩ = some (.slice none 0 0)) := Lib.hid (by rw [hW]; simp [go_sem])
 have RF : Hid (∀ j, W.frozen? ⟨w.heap.size + 1 + 1, j, none⟩ = false) := Lib.hid fun j => by rw [hW]; simp [go_sem]
 have BX := Lib.hid bx
 have HA : Hid (∀ w', Below W.heap.size W w' → ArgG w' (.agg #[.int .i64 g1, .int .i64 N, .slice A es.length cap]) (g1, N, es)) := Lib.hid fun w' hb => HG.out.below (BX.out.trans (hb.mono BX.out.size))
 have HA2 : Hid (∀ w', Below W.heap.size W w' → ArgE w' (.slice A es.length cap) es) := Lib.hid fun w' hb => HAE.out.below (BX.out.trans (hb.mono BX.out.size))
 clear hW bx
 have hgi := specIsGraph_any _ (g1, N, es) W (HA.out _ (Below.refl _ _))
 rw [HGR.out] at hgi
 refine hgi.mono ?_
 rintro e w1 ⟨rfl, b1⟩
 have B1 := Lib.hid b1
 have hs1 := b1.size
 clear b1 hgi
 have HCEL : Hid (∀ wr, Below w1.heap.size w1 wr → wr.cell? ⟨w.heap.size, 0, none⟩ = some (.int .i64 g1) ∧ wr.cell? ⟨w.heap.size, 1, none⟩ = some (.int .i64 N) ∧ wr.cell? ⟨w.heap.size, 2, none⟩ = some (.slice A es.length cap) ∧ wr.cell? ⟨w.heap.size + 1, 0, none⟩ = some (.int .i64 fa) ∧ wr.cell? ⟨w.heap.size + 1, 1, none⟩ = some (.int .i64 fb)) := Lib.hid fun wr hb => by
  have hb2 : Below W.heap.size W wr := B1.out.trans (hb.mono hs1)
  exact ⟨(hb2.cell (p := ⟨w.heap.size, 0, none⟩) (by show w.heap.size < _; omega)).trans L0.out, (hb2.cell (p := ⟨w.heap.size, 1, none⟩) (by show w.heap.size < _; omega)).trans L1.out, (hb2.cell (p := ⟨w.heap.size, 2, none⟩) (by show w.heap.size < _; omega)).trans L2.out, (hb2.cell (p := ⟨w.heap.size + 1, 0, none⟩) (by show w.heap.size + 1 < _; omega)).trans M0.out, (hb2.cell (p := ⟨w.heap.size + 1, 1, none⟩) (by show w.heap.size + 1 < _; omega)).trans M1.out⟩
 obtain ⟨q0, q1, q2, q3, q4⟩ := HCEL.out w1 (Below.refl _ _)
 have bX : Below w1.heap.size w1 (w1.alloc (Obj.cells #[Value.int IntKind.i64 g1, Value.int IntKind.i64 (N - 1), .slice none 0 0] 31)) := (Below.refl _ _).alloc (Nat.le_refl _) _
 have BXX := Lib.hid bX
 have X0 : Hid ((w1.alloc (Obj.cells #[Value.int IntKind.i64 g1, Value.int IntKind.i64 (N - 1), .slice none 0 0] 31)).cell? ⟨w1.heap.size, 0, none⟩ = some (.int .i64 g1)) := Lib.hid (by simp [go_sem])
 have X1 : Hid ((w1.alloc (Obj.cells #[Value.int IntKind.i64 g1, Value.int IntKind.i64 (N - 1), .slice none 0 0] 31)).cell? ⟨w1.heap.size, 1, none⟩ = some (.int .i64 (N - 1))) := Lib.hid (by simp [go_sem])
 have X2 : Hid ((w1.alloc (Obj.cells #[Value.int IntKind.i64 g1, Value.int IntKind.i64 (N - 1), .slice none 0 0] 31)).cell? ⟨w1.heap.size, 2, none⟩ = some (.slice none 0 0)) := Lib.hid (by simp [go_sem])
 have XF : Hid (∀ j, (w1.alloc (Obj.cells #[Value.int IntKind.i64 g1, Value.int IntKind.i64 (N - 1), .slice none 0 0] 31)).frozen? ⟨w1.heap.size, j, none⟩ = false) := Lib.hid fun j => by simp [go_sem]
 clear bX
 go_wp2
 obtain ⟨w5, hw5⟩ : ∃ W, W = w1.alloc (Obj.cells #[Value.int IntKind.i64 g1, Value.int IntKind.i64 (N - 1), .slice none 0 0] 31) := ⟨_, rfl⟩
 have hs5 : w5.heap.size = w1.heap.size + 1 := by rw [hw5]; simp
 rw [← hw5] at BXX X0 X1 X2 XF ⊢
 clear hw5 q0 q1 q2 q3 q4
 go_loopw [7] (fun i wr => ∃ (k : Nat) (A2 : Option Addr) (cap2 : Nat), k ≤ es.length ∧ i = .int .i64 k ∧ wr.cell? ⟨w1.heap.size, 2, none⟩ = some (.slice A2 (srt cmpE ((es.take k).map (plE (fa, fb)))).length cap2) ∧ OwE wr (w1.heap.size + 1) (.slice A2 (srt cmpE ((es.take k).map (plE (fa, fb)))).length cap2) (srt cmpE ((es.take k).map (plE (fa, fb)))) ∧ Below w1.heap.size w1 wr ∧
   wr.cell? ⟨w1.heap.size, 0, none⟩ = some (.int .i64 g1) ∧ wr.cell? ⟨w1.heap.size, 1, none⟩ = some (.int .i64 (N - 1)) ∧ (∀ j, wr.frozen? ⟨w1.heap.size, j, none⟩ = false) ∧ w1.heap.size < wr.heap.size) (fun i _ => es.length - (intOf i).toNat)
 case atStart => exact ⟨0, none, 0, Nat.zero_le _, rfl, X2.out, OwE.nil, BXX.out, X0.out, X1.out, XF.out, by omega⟩
 case round =>
  obtain ⟨k, A2, cap2, hk, rfl, hx2, how2, hbr, hx0, hx1, hxf, hxr⟩ := hrel
  have HX0 := Lib.hid hx0
  have HX1 := Lib.hid hx1
  have HX2 := Lib.hid hx2
  have HXF := Lib.hid hxf
  have HOW2 := Lib.hid how2
  have HBR := Lib.hid hbr
  have B4 := Lib.hid (B1.out.trans (hbr.mono hs1))
  clear hx0 hx1 hx2 hxf how2 hbr
  obtain ⟨q0, q1, q2, q3, q4⟩ := HCEL.out wr HBR.out
  by_cases hlt : k < es.length
  ·obtain ⟨b, off, rfl, hbw, a0, a1, a2, he64⟩ := (HA2.out wr B4.out).at hlt
   have HST := Lib.hid (mer_succ es (fa, fb) k hlt)
   have hml := mer_len es (fa, fb) k
   have hed := HED.out es[k] (List.getElem_mem hlt)
   have HE64 := Lib.hid he64
   have hkI : (k : Int) < (es.length : Int) := by omega
   generalize es[k] = d at *
   obtain ⟨a, l, c⟩ := d
   simp only at a0 a1 a2 hed
   generalize srt cmpE ((es.take k).map (plE (fa, fb))) = L at *
   have bA : Below wr.heap.size wr (wr.alloc (Obj.cells #[Value.int IntKind.i64 a, Value.int IntKind.i64 l, Value.int IntKind.i64 c] 54)) := (Below.refl _ _).alloc (Nat.le_refl _) _
   have HPE : Hid (plE (fa, fb) (a, l, c) = (plF (fa, fb) a, l, plF (fa, fb) c)) := Lib.hid rfl
   have HP1 := Lib.hid (plF_range (f := (fa, fb)) (n := N) (v := a) hf hed.1)
   have HP2 := Lib.hid (plF_range (f := (fa, fb)) (n := N) (v := c) hf hed.2.2)
   have HN : Hid (∀ x : Int, 0 ≤ x ∧ x ≤ 1000 → ∀ W' : World, Calls Tryz.prog 174 #[.int .i64 x, .agg #[.int .i64 fa, .int .i64 fb]] W' fun e w' => e = .returned (.int .i64 (plF (fa, fb) x)) ∧ Below W'.heap.size W' w') := Lib.hid fun x hx W' => l7New_any x (fa, fb) W' hx ⟨hf.1, hf.2.1, by simp only; omega⟩
   have hda : 0 ≤ a ∧ a ≤ 1000 := by omega
   have hdc : 0 ≤ c ∧ c ≤ 1000 := by omega
   clear he64
   go_wp2_with fail
   have sA : wr.heap.size < (wr.alloc (Obj.cells #[Value.int IntKind.i64 a, Value.int IntKind.i64 l, Value.int IntKind.i64 c] 54)).heap.size := by simp
   have l0 : (wr.alloc (Obj.cells #[Value.int IntKind.i64 a, Value.int IntKind.i64 l, Value.int IntKind.i64 c] 54)).cell? ⟨wr.heap.size, 0, none⟩ = some (.int .i64 a) := by simp [go_sem]
   have l1 : (wr.alloc (Obj.cells #[Value.int IntKind.i64 a, Value.int IntKind.i64 l, Value.int IntKind.i64 c] 54)).cell? ⟨wr.heap.size, 1, none⟩ = some (.int .i64 l) := by simp [go_sem]
   have l2 : (wr.alloc (Obj.cells #[Value.int IntKind.i64 a, Value.int IntKind.i64 l, Value.int IntKind.i64 c] 54)).cell? ⟨wr.heap.size, 2, none⟩ = some (.int .i64 c) := by simp [go_sem]
   generalize wr.alloc (Obj.cells #[Value.int IntKind.i64 a, Value.int IntKind.i64 l, Value.int IntKind.i64 c] 54) = W9 at bA sA l0 l1 l2 ⊢
   have lx := (bA.cell (p := ⟨w1.heap.size, 2, none⟩) hxr).trans HX2.out
   have la := (bA.cell (p := ⟨w.heap.size + 1, 0, none⟩) (by show w.heap.size + 1 < _; omega)).trans q3
   have lb := (bA.cell (p := ⟨w.heap.size + 1, 1, none⟩) (by show w.heap.size + 1 < _; omega)).trans q4
   have LX0 := Lib.hid ((bA.cell (p := ⟨w1.heap.size, 0, none⟩) hxr).trans HX0.out)
   have LX1 := Lib.hid ((bA.cell (p := ⟨w1.heap.size, 1, none⟩) hxr).trans HX1.out)
   have LXF : Hid (∀ j, W9.frozen? ⟨w1.heap.size, j, none⟩ = false) := Lib.hid fun j => (bA.frozen (p := ⟨w1.heap.size, j, none⟩) hxr).trans (HXF.out j)
   have OW := Lib.hid (HOW2.out.below bA)
   have BW9 := Lib.hid (HBR.out.trans (bA.mono (by omega)))
   have hXW : w1.heap.size < W9.heap.size := by omega
   have hFW : w.heap.size + 1 < W9.heap.size := by omega
   have hwX : wr.heap.size ≠ w1.heap.size := by omega
   clear bA a0 a1 a2 q0 q1 q2 q3 q4
   have f0 := BelW.cell l0 sA
   have f1 := BelW.cell l1 sA
   have f2 := BelW.cell l2 sA
   have f3 := BelW.cell la hFW
   have f4 := BelW.cell lb hFW
   have f5 := BelW.cell lx hXW
   (refine wp_region_call3 13 (by kernel_rfl) (by kernel_rfl) (by kernel_rfl) (by kernel_rfl) (by rfl) (by rfl) ?_; dsimp only [dum3, dumO]; (repeat (go_big_quiet_step ((go_at_call 174; exact Calls.bel_of (HN.out _ (by assumption) _))))); refine wpQuiet_nil ?_; refine ⟨⟨_, fun _ => by rfl⟩, ?_⟩; intro wq hw'; obtain ⟨pq, hw''⟩ := hw'; have bq := pq.h; rw [← hw''] at bq; clear hw'' pq; refine ⟨_, _, by rfl, ?_⟩)
   clear f0 f1 f2 f3 f4 f5
   simp only [List.map_toArray, List.map_cons, List.map_nil, Array.empty_append, Array.append_empty]
   refine (show Calls Tryz.prog 59 #[.slice A2 L.length cap2, .agg #[.int .i64 (plF (fa, fb) a), .int .i64 l, .int .i64 (plF (fa, fb) c)]] wq _ from ?_)
   have hp1 := HP1.out
   have hp2 := HP2.out
   refine (l4Put_any _ L (plF (fa, fb) a, l, plF (fa, fb) c) wq (OW.out.below bq).arg ⟨⟨by simp only; omega, by simp only; omega⟩, ⟨by simp only; omega, by simp only; omega⟩, ⟨by simp only; omega, by simp only; omega⟩⟩ (by omega)).mono ?_
   rintro e' w9 ⟨r9, rfl, o9, b9⟩
   have B9 := Lib.hid (bq.trans (b9.mono bq.size))
   have qx := (B9.out.cell (p := ⟨w1.heap.size, 2, none⟩) hXW).trans lx
   have qf := (B9.out.frozen (p := ⟨w1.heap.size, 2, none⟩) hXW).trans (LXF.out 2)
   have s9 : W9.heap.size ≤ w9.heap.size := B9.out.size
   have O9 := Lib.hid o9
   obtain ⟨A9, cap9, rfl, _⟩ := o9.form
   clear o9 b9 hp1 hp2
   refine ⟨_, rfl, ?_⟩
   simp only [Act.put, List.setIfInBounds_toArray, List.set_cons_zero, List.set_cons_succ]
   go_wp2
   go_roundw
   case rel =>
    have F := Lib.hid (HST.out.trans (by rw [HPE.out]))
    refine ⟨k + 1, A9, cap9, by omega, by go_num, by rw [F.out]; exact World.cell?_setCell_same _ _ _ qx, ?_, (BW9.out.trans (B9.out.mono (by omega))).setCell (Nat.le_refl _) _, ?_, ?_, fun j => by rw [World.frozen?_setCell]; exact (B9.out.frozen (p := ⟨w1.heap.size, j, none⟩) hXW).trans (LXF.out j), by simp; omega⟩
    ·rw [F.out]
     exact (O9.out.mono (by show _ ≤ wq.heap.size; have := bq.size; omega)).far (show w1.heap.size < w1.heap.size + 1 by omega) _
    ·rw [World.cell?_setCell_other _ _ _ _ (by simp)]
     exact (B9.out.cell (p := ⟨w1.heap.size, 0, none⟩) hXW).trans LX0.out
    ·rw [World.cell?_setCell_other _ _ _ _ (by simp)]
     exact (B9.out.cell (p := ⟨w1.heap.size, 1, none⟩) hXW).trans LX1.out
   case measure => simp [intOf]; omega
  ·obtain rfl : k = es.length := by omega
   rw [List.take_length] at HX2 HOW2
   have HMG : Hid (merG (g1, N, es) (fa, fb) = (g1, N - 1, srt cmpE (es.map (plE (fa, fb))))) := Lib.hid rfl
   generalize srt cmpE (es.map (plE (fa, fb))) = L at *
   have hx0 := HX0.out
   have hx1 := HX1.out
   have hx2 := HX2.out
   have r0 := (B4.out.cell (p := ⟨w.heap.size + 1 + 1, 0, none⟩) (by show w.heap.size + 1 + 1 < _; omega)).trans R0.out
   have r1 := (B4.out.cell (p := ⟨w.heap.size + 1 + 1, 1, none⟩) (by show w.heap.size + 1 + 1 < _; omega)).trans R1.out
   have r2 := (B4.out.cell (p := ⟨w.heap.size + 1 + 1, 2, none⟩) (by show w.heap.size + 1 + 1 < _; omega)).trans R2.out
   have rf0 := (B4.out.frozen (p := ⟨w.heap.size + 1 + 1, 0, none⟩) (by show w.heap.size + 1 + 1 < _; omega)).trans (RF.out 0)
   have rf1 := (B4.out.frozen (p := ⟨w.heap.size + 1 + 1, 1, none⟩) (by show w.heap.size + 1 + 1 < _; omega)).trans (RF.out 1)
   have rf2 := (B4.out.frozen (p := ⟨w.heap.size + 1 + 1, 2, none⟩) (by show w.heap.size + 1 + 1 < _; omega)).trans (RF.out 2)
   have hRx : w.heap.size + 1 + 1 ≠ w1.heap.size := by omega
   have HBF := Lib.hid (BX.out.trans (B4.out.mono BX.out.size))
   go_wp2
   obtain ⟨c0, c1, c2⟩ := cells3F (.int .i64 g1) (.int .i64 (N - 1)) (.slice A2 L.length cap2) r0 r1 r2
   have bw : Below w.heap.size w (((wr.setCell ⟨w.heap.size + 1 + 1, 0, none⟩ (.int .i64 g1)).setCell ⟨w.heap.size + 1 + 1, 1, none⟩ (.int .i64 (N - 1))).setCell ⟨w.heap.size + 1 + 1, 2, none⟩ (.slice A2 L.length cap2)) := (((HBF.out.setCell (by simp <;> omega) _).setCell (by simp <;> omega) _).setCell (by simp <;> omega) _)
   have ow : OwE (((wr.setCell ⟨w.heap.size + 1 + 1, 0, none⟩ (.int .i64 g1)).setCell ⟨w.heap.size + 1 + 1, 1, none⟩ (.int .i64 (N - 1))).setCell ⟨w.heap.size + 1 + 1, 2, none⟩ (.slice A2 L.length cap2)) (w1.heap.size + 1) (.slice A2 L.length cap2) L := ((HOW2.out.far (by show w.heap.size + 1 + 1 < _; omega) _).far (by show w.heap.size + 1 + 1 < _; omega) _).far (by show w.heap.size + 1 + 1 < _; omega) _
   generalize (((wr.setCell ⟨w.heap.size + 1 + 1, 0, none⟩ (.int .i64 g1)).setCell ⟨w.heap.size + 1 + 1, 1, none⟩ (.int .i64 (N - 1))).setCell ⟨w.heap.size + 1 + 1, 2, none⟩ (.slice A2 L.length cap2)) = wf at *
   rw [HMG.out]
   exact bodyPost_ret (v := .tuple #[.agg #[.int .i64 g1, .int .i64 (N - 1), .slice A2 L.length cap2], .bool true]) (by simp [results, Tryz.results156, go_sem, c0, c1, c2]) rfl ⟨_, rfl, ⟨.slice A2 L.length cap2, rfl, (by show I64 g1; unfold I64; omega), (by show I64 (N - 1); unfold I64; omega), ow.mono (by omega)⟩, bw⟩
def onceG (g : GrD) : GrD := match foL g.2.2 with | [] => g | f :: _ => merG g f
theorem setc_other {W : World} {b b' o o' : Nat} {u : Value} {x : Option Value} (hne : b ≠ b') (h : W.cell? ⟨b, o, none⟩ = x) : (W.setCell ⟨b', o', none⟩ u).cell? ⟨b, o, none⟩ = x :=
 (World.cell?_setCell_other _ _ _ _ (by simp [hne])).trans h
set_option maxHeartbeats 1000000 in
theorem specFoldOnce_any (v : Value) (g : GrD) (w : World) (h : ArgG w v g) (hg : grB g = true) :
  Calls Tryz.prog 140 #[v] w fun e w' => ∃ r, e = .returned (.tuple #[r, .agg #[.int .i64 (firF g).1.1, .int .i64 (firF g).1.2], .bool (firF g).2]) ∧ OwG w' w.heap.size r (onceG g) ∧ Below w.heap.size w w' := by
 have HG := Lib.hid h
 have HGR := Lib.hid hg
 have HFK := Lib.hid fun f (hf : f ∈ foL g.2.2) => foL_ok hg hf
 have h120 := (grB_parts hg).2.2.1
 obtain ⟨s, rfl, hi1, hi2, ha⟩ := h
 obtain ⟨A, cap, rfl⟩ := ha.form
 obtain ⟨g1, N, es⟩ := g
 simp only at *
 clear ha hg
 go_enter Tryz.func140, Tryz.ntmps140
 have bx : Below w.heap.size w (((w.alloc (Obj.cells #[Value.int IntKind.i64 g1, Value.int IntKind.i64 N, .slice A es.length cap] 31)).alloc (Obj.cells #[Value.int IntKind.i64 0, Value.int IntKind.i64 0, .slice none 0 0] 31)).alloc (Obj.cells #[Value.int IntKind.i64 0, Value.int IntKind.i64 0] 128)) := (by repeat (first | exact Below.refl _ _ | (refine Below.setCell ?_ (by first | omega | (simp <;> omega)) _) | (refine bel_drewN ?_ _) | (refine Below.drew ?_) | (refine Below.alloc ?_ (by first | omega | (simp <;> omega)) _)))
 go_wp2_with fail
 obtain ⟨W, hW⟩ : ∃ W, W = (((w.alloc (Obj.cells #[Value.int IntKind.i64 g1, Value.int IntKind.i64 N, .slice A es.length cap] 31)).alloc (Obj.cells #[Value.int IntKind.i64 0, Value.int IntKind.i64 0, .slice none 0 0] 31)).alloc (Obj.cells #[Value.int IntKind.i64 0, Value.int IntKind.i64 0] 128)) := ⟨_, rfl⟩
 rw [← hW] at bx ⊢
 have hsW : W.heap.size = w.heap.size + 3 := by rw [hW]; simp
 have L0 : Hid (W.cell? ⟨w.heap.size, 0, none⟩ = some (.int .i64 g1)) := Lib.hid (by rw [hW]; simp [go_sem])
 have L1 : Hid (W.cell? ⟨w.heap.size, 1, none⟩ = some (.int .i64 N)) := Lib.hid (by rw [hW]; simp [go_sem])
 have L2 : Hid (W.cell? ⟨w.heap.size, 2, none⟩ = some (.slice A es.length cap)) := Lib.hid (by rw [hW]; simp [go_sem])
 have R0 : Hid (W.cell? ⟨w.heap.size + 1, 0, none⟩ = some (.int .i64 0)) := Lib.hid (by rw [hW]; simp [go_sem])
 have R1 : Hid (W.cell? ⟨w.heap.size + 1, 1, none⟩ = some (.int .i64 0)) := Lib.hid (by rw [hW]; simp [go_sem])
 have R2 : Hid (W.cell? ⟨w.heap.size + 1, 2, none⟩ = some (.slice none 0 0)) := Lib.hid (by rw [hW]; simp [go_sem])
 have S0 : Hid (W.cell? ⟨w.heap.size + 1 + 1, 0, none⟩ = some (.int .i64 0)) := Lib.hid (by rw [hW]; simp [go_sem])
 have S1 : Hid (W.cell? ⟨w.heap.size + 1 + 1, 1, none⟩ = some (.int .i64 0)) := Lib.hid (by rw [hW]; simp [go_sem])
 have RF : Hid (∀ j, W.frozen? ⟨w.heap.size + 1, j, none⟩ = false) := Lib.hid fun j => by rw [hW]; simp [go_sem]
 have SF : Hid (∀ j, W.frozen? ⟨w.heap.size + 1 + 1, j, none⟩ = false) := Lib.hid fun j => by rw [hW]; simp [go_sem]
 have BX := Lib.hid bx
 have HA : Hid (∀ w', Below W.heap.size W w' → ArgG w' (.agg #[.int .i64 g1, .int .i64 N, .slice A es.length cap]) (g1, N, es)) := Lib.hid fun w' hb => HG.out.below (BX.out.trans (hb.mono BX.out.size))
 have HCL : Hid (∀ w', Below W.heap.size W w' → w'.cell? ⟨w.heap.size, 0, none⟩ = some (.int .i64 g1) ∧ w'.cell? ⟨w.heap.size, 1, none⟩ = some (.int .i64 N) ∧ w'.cell? ⟨w.heap.size, 2, none⟩ = some (.slice A es.length cap)) := Lib.hid fun w' hb =>
  ⟨(hb.cell (p := ⟨w.heap.size, 0, none⟩) (by show w.heap.size < _; omega)).trans L0.out, (hb.cell (p := ⟨w.heap.size, 1, none⟩) (by show w.heap.size < _; omega)).trans L1.out, (hb.cell (p := ⟨w.heap.size, 2, none⟩) (by show w.heap.size < _; omega)).trans L2.out⟩
 have HCR : Hid (∀ w', Below W.heap.size W w' → w'.cell? ⟨w.heap.size + 1, 0, none⟩ = some (.int .i64 0) ∧ w'.cell? ⟨w.heap.size + 1, 1, none⟩ = some (.int .i64 0) ∧ w'.cell? ⟨w.heap.size + 1, 2, none⟩ = some (.slice none 0 0) ∧ w'.cell? ⟨w.heap.size + 1 + 1, 0, none⟩ = some (.int .i64 0) ∧ w'.cell? ⟨w.heap.size + 1 + 1, 1, none⟩ = some (.int .i64 0) ∧ (∀ j, w'.frozen? ⟨w.heap.size + 1, j, none⟩ = false) ∧ (∀ j, w'.frozen? ⟨w.heap.size + 1 + 1, j, none⟩ = false)) := Lib.hid fun w' hb =>
  ⟨(hb.cell (p := ⟨w.heap.size + 1, 0, none⟩) (by show w.heap.size + 1 < _; omega)).trans R0.out, (hb.cell (p := ⟨w.heap.size + 1, 1, none⟩) (by show w.heap.size + 1 < _; omega)).trans R1.out, (hb.cell (p := ⟨w.heap.size + 1, 2, none⟩) (by show w.heap.size + 1 < _; omega)).trans R2.out, (hb.cell (p := ⟨w.heap.size + 1 + 1, 0, none⟩) (by show w.heap.size + 1 + 1 < _; omega)).trans S0.out, (hb.cell (p := ⟨w.heap.size + 1 + 1, 1, none⟩) (by show w.heap.size + 1 + 1 < _; omega)).trans S1.out, fun j => (hb.frozen (p := ⟨w.heap.size + 1, j, none⟩) (by show w.heap.size + 1 < _; omega)).trans (RF.out j), fun j => (hb.frozen (p := ⟨w.heap.size + 1 + 1, j, none⟩) (by show w.heap.size + 1 + 1 < _; omega)).trans (SF.out j)⟩
 clear hW bx L0 L1 L2 R0 R1 R2 S0 S1 RF SF
 refine (specFirstFold_any _ (g1, N, es) W (HA.out _ (Below.refl _ _))).mono ?_
 rintro e w1 ⟨rfl, b1⟩
 have B1 := Lib.hid b1
 have hs1 := b1.size
 clear b1
 rcases ef : foL es with _ | ⟨f, l⟩
 ·have F : Hid (firF (g1, N, es) = ((0, 0), false)) := Lib.hid (by unfold firF; rw [if_pos HGR.out]; simp only [ef])
  have FO : Hid (onceG (g1, N, es) = (g1, N, es)) := Lib.hid (by unfold onceG; simp only [ef])
  clear ef
  rw [F.out]
  simp only
  have bA : Below w1.heap.size w1 (w1.alloc (Obj.cells #[Value.int IntKind.i64 0, Value.int IntKind.i64 0] 128)) := (Below.refl _ _).alloc (Nat.le_refl _) _
  have BA := Lib.hid (B1.out.trans (bA.mono hs1))
  obtain ⟨q0, q1, q2⟩ := HCL.out _ BA.out
  go_wp2_with fail
  refine (l4Copy_any _ (g1, N, es) _ (HA.out _ BA.out) (by simp only; omega)).mono ?_
  rintro e w2 ⟨r, rfl, o2, b2⟩
  have B2 := Lib.hid (BA.out.trans (b2.mono BA.out.size))
  have O2 := Lib.hid o2
  obtain ⟨s2, rfl, _, _, oe2⟩ := o2
  obtain ⟨A2, c2, rfl, _⟩ := oe2.form
  have OE2 := Lib.hid oe2
  have hsA := BA.out.size
  obtain ⟨r0, r1, r2, s0, s1, rf, sf⟩ := HCR.out w2 B2.out
  have rf0 := rf 0
  have rf1 := rf 1
  have rf2 := rf 2
  have sf0 := sf 0
  have sf1 := sf 1
  have HBF := Lib.hid (BX.out.trans (B2.out.mono BX.out.size))
  clear b2 oe2 rf sf q0 q1 q2 bA
  go_wp2
  obtain ⟨c0, c1, c2'⟩ := cells3F (.int .i64 g1) (.int .i64 N) (.slice A2 es.length c2) r0 r1 r2
  have hne1 : w.heap.size + 1 ≠ w.heap.size + 1 + 1 := by omega
  have hne2 : w.heap.size + 1 + 1 ≠ w.heap.size + 1 := by omega
  have d0 := setc_other (o' := 1) (u := .int .i64 0) hne1 (setc_other (o' := 0) (u := .int .i64 0) hne1 c0)
  have d1 := setc_other (o' := 1) (u := .int .i64 0) hne1 (setc_other (o' := 0) (u := .int .i64 0) hne1 c1)
  have d2 := setc_other (o' := 1) (u := .int .i64 0) hne1 (setc_other (o' := 0) (u := .int .i64 0) hne1 c2')
  obtain ⟨e0, e1⟩ := cells2 (.int .i64 0) (.int .i64 0) (setc_other (o' := 2) (u := .slice A2 es.length c2) hne2 (setc_other (o' := 1) (u := .int .i64 N) hne2 (setc_other (o' := 0) (u := .int .i64 g1) hne2 s0))) (setc_other (o' := 2) (u := .slice A2 es.length c2) hne2 (setc_other (o' := 1) (u := .int .i64 N) hne2 (setc_other (o' := 0) (u := .int .i64 g1) hne2 s1)))
  have bw : Below w.heap.size w (((((w2.setCell ⟨w.heap.size + 1, 0, none⟩ (.int .i64 g1)).setCell ⟨w.heap.size + 1, 1, none⟩ (.int .i64 N)).setCell ⟨w.heap.size + 1, 2, none⟩ (.slice A2 es.length c2)).setCell ⟨w.heap.size + 1 + 1, 0, none⟩ (.int .i64 0)).setCell ⟨w.heap.size + 1 + 1, 1, none⟩ (.int .i64 0)) := (((((HBF.out.setCell (by simp <;> omega) _).setCell (by simp <;> omega) _).setCell (by simp <;> omega) _).setCell (by simp <;> omega) _).setCell (by simp <;> omega) _)
  have ow : OwE (((((w2.setCell ⟨w.heap.size + 1, 0, none⟩ (.int .i64 g1)).setCell ⟨w.heap.size + 1, 1, none⟩ (.int .i64 N)).setCell ⟨w.heap.size + 1, 2, none⟩ (.slice A2 es.length c2)).setCell ⟨w.heap.size + 1 + 1, 0, none⟩ (.int .i64 0)).setCell ⟨w.heap.size + 1 + 1, 1, none⟩ (.int .i64 0)) _ (.slice A2 es.length c2) es := (((((OE2.out.far (by show w.heap.size + 1 < _; omega) _).far (by show w.heap.size + 1 < _; omega) _).far (by show w.heap.size + 1 < _; omega) _).far (by show w.heap.size + 1 + 1 < _; omega) _).far (by show w.heap.size + 1 + 1 < _; omega) _)
  generalize (((((w2.setCell ⟨w.heap.size + 1, 0, none⟩ (.int .i64 g1)).setCell ⟨w.heap.size + 1, 1, none⟩ (.int .i64 N)).setCell ⟨w.heap.size + 1, 2, none⟩ (.slice A2 es.length c2)).setCell ⟨w.heap.size + 1 + 1, 0, none⟩ (.int .i64 0)).setCell ⟨w.heap.size + 1 + 1, 1, none⟩ (.int .i64 0)) = wf at *
  rw [FO.out, F.out]
  exact bodyPost_ret (v := .tuple #[.agg #[.int .i64 g1, .int .i64 N, .slice A2 es.length c2], .agg #[.int .i64 0, .int .i64 0], .bool false]) (by simp [results, Tryz.results140, go_sem, d0, d1, d2, e0, e1]) rfl ⟨_, rfl, ⟨.slice A2 es.length c2, rfl, hi1, hi2, ow.mono (by omega)⟩, bw⟩
 ·have F : Hid (firF (g1, N, es) = (f, true)) := Lib.hid (by unfold firF; rw [if_pos HGR.out]; simp only [ef])
  have FO : Hid (onceG (g1, N, es) = merG (g1, N, es) f) := Lib.hid (by unfold onceG; simp only [ef])
  have hfk := HFK.out f (by rw [ef]; simp)
  clear ef
  rw [F.out]
  obtain ⟨fa, fb⟩ := f
  simp only
  have bA : Below w1.heap.size w1 (w1.alloc (Obj.cells #[Value.int IntKind.i64 fa, Value.int IntKind.i64 fb] 128)) := (Below.refl _ _).alloc (Nat.le_refl _) _
  have BA := Lib.hid (B1.out.trans (bA.mono hs1))
  obtain ⟨q0, q1, q2⟩ := HCL.out _ BA.out
  go_wp2_with fail
  obtain ⟨WA, hWA⟩ : ∃ W, W = w1.alloc (Obj.cells #[Value.int IntKind.i64 fa, Value.int IntKind.i64 fb] 128) := ⟨_, rfl⟩
  have k0 : Hid (WA.cell? ⟨w1.heap.size, 0, none⟩ = some (.int .i64 fa)) := Lib.hid (by rw [hWA]; simp [go_sem])
  have k1 : Hid (WA.cell? ⟨w1.heap.size, 1, none⟩ = some (.int .i64 fb)) := Lib.hid (by rw [hWA]; simp [go_sem])
  have hsA : WA.heap.size = w1.heap.size + 1 := by rw [hWA]; simp
  rw [← hWA] at BA q0 q1 q2 ⊢
  clear hWA bA
  refine (specMergeVertices_any _ (g1, N, es) (fa, fb) WA (HA.out _ BA.out) HGR.out hfk).mono ?_
  rintro e w2 ⟨r, rfl, o2, b2⟩
  have B2 := Lib.hid (BA.out.trans (b2.mono BA.out.size))
  have hs2 := b2.size
  obtain ⟨s2, rfl, hj1, hj2, oe2⟩ := o2
  obtain ⟨A2, c2, rfl, _⟩ := oe2.form
  have OE2 := Lib.hid oe2
  have l0 := (b2.cell (p := ⟨w1.heap.size, 0, none⟩) (by show w1.heap.size < _; omega)).trans k0.out
  have l1 := (b2.cell (p := ⟨w1.heap.size, 1, none⟩) (by show w1.heap.size < _; omega)).trans k1.out
  clear b2 oe2 q0 q1 q2
  generalize hmg : merG (g1, N, es) (fa, fb) = M at *
  obtain ⟨m1, m2, ms⟩ := M
  simp only at hj1 hj2
  have HMG := Lib.hid hmg
  clear hmg
  go_wp2_with fail
  have bB : Below w2.heap.size w2 (w2.alloc (Obj.cells #[Value.int IntKind.i64 m1, Value.int IntKind.i64 m2, .slice A2 ms.length c2] 31)) := (Below.refl _ _).alloc (Nat.le_refl _) _
  obtain ⟨WB, hWB⟩ : ∃ W, W = w2.alloc (Obj.cells #[Value.int IntKind.i64 m1, Value.int IntKind.i64 m2, .slice A2 ms.length c2] 31) := ⟨_, rfl⟩
  have x0 : WB.cell? ⟨w2.heap.size, 0, none⟩ = some (.int .i64 m1) := by rw [hWB]; simp [go_sem]
  have x1 : WB.cell? ⟨w2.heap.size, 1, none⟩ = some (.int .i64 m2) := by rw [hWB]; simp [go_sem]
  have x2 : WB.cell? ⟨w2.heap.size, 2, none⟩ = some (.slice A2 ms.length c2) := by rw [hWB]; simp [go_sem]
  have hsB : WB.heap.size = w2.heap.size + 1 := by rw [hWB]; simp
  rw [← hWB] at bB ⊢
  clear hWB
  have y0 := (bB.cell (p := ⟨w1.heap.size, 0, none⟩) (by show w1.heap.size < _; omega)).trans l0
  have y1 := (bB.cell (p := ⟨w1.heap.size, 1, none⟩) (by show w1.heap.size < _; omega)).trans l1
  have BB := Lib.hid (B2.out.trans (bB.mono B2.out.size))
  have OEB := Lib.hid (OE2.out.below bB)
  obtain ⟨r0, r1, r2, s0, s1, rf, sf⟩ := HCR.out WB BB.out
  have rf0 := rf 0
  have rf1 := rf 1
  have rf2 := rf 2
  have sf0 := sf 0
  have sf1 := sf 1
  have hne1 : w.heap.size + 1 ≠ w2.heap.size := by omega
  have hne2 : w.heap.size + 1 + 1 ≠ w2.heap.size := by omega
  have hne3 : w.heap.size + 1 ≠ w1.heap.size := by omega
  have hne4 : w.heap.size + 1 + 1 ≠ w1.heap.size := by omega
  have HBF := Lib.hid (BX.out.trans (BB.out.mono BX.out.size))
  clear rf sf l0 l1 bB
  go_region_held3 (fun w' => w'.cell? ⟨w2.heap.size, 0, none⟩ = some (.int .i64 m1) ∧ w'.cell? ⟨w2.heap.size, 1, none⟩ = some (.int .i64 m2) ∧ w'.cell? ⟨w2.heap.size, 2, none⟩ = some (.slice A2 ms.length c2) ∧ w'.cell? ⟨w1.heap.size, 0, none⟩ = some (.int .i64 fa) ∧ w'.cell? ⟨w1.heap.size, 1, none⟩ = some (.int .i64 fb))
   (first | go_keep | (simp [go_sem, *]; done))
   (fail)
  go_wp2
  obtain ⟨c0, c1, c2'⟩ := cells3F (.int .i64 m1) (.int .i64 m2) (.slice A2 ms.length c2) r0 r1 r2
  have hnf1 : w.heap.size + 1 ≠ w.heap.size + 1 + 1 := by omega
  have hnf2 : w.heap.size + 1 + 1 ≠ w.heap.size + 1 := by omega
  have d0 := setc_other (o' := 1) (u := .int .i64 fb) hnf1 (setc_other (o' := 0) (u := .int .i64 fa) hnf1 c0)
  have d1 := setc_other (o' := 1) (u := .int .i64 fb) hnf1 (setc_other (o' := 0) (u := .int .i64 fa) hnf1 c1)
  have d2 := setc_other (o' := 1) (u := .int .i64 fb) hnf1 (setc_other (o' := 0) (u := .int .i64 fa) hnf1 c2')
  obtain ⟨e0, e1⟩ := cells2 (.int .i64 fa) (.int .i64 fb) (setc_other (o' := 2) (u := .slice A2 ms.length c2) hnf2 (setc_other (o' := 1) (u := .int .i64 m2) hnf2 (setc_other (o' := 0) (u := .int .i64 m1) hnf2 s0))) (setc_other (o' := 2) (u := .slice A2 ms.length c2) hnf2 (setc_other (o' := 1) (u := .int .i64 m2) hnf2 (setc_other (o' := 0) (u := .int .i64 m1) hnf2 s1)))
  have bw : Below w.heap.size w (((((WB.setCell ⟨w.heap.size + 1, 0, none⟩ (.int .i64 m1)).setCell ⟨w.heap.size + 1, 1, none⟩ (.int .i64 m2)).setCell ⟨w.heap.size + 1, 2, none⟩ (.slice A2 ms.length c2)).setCell ⟨w.heap.size + 1 + 1, 0, none⟩ (.int .i64 fa)).setCell ⟨w.heap.size + 1 + 1, 1, none⟩ (.int .i64 fb)).drew := (((((HBF.out.setCell (by simp <;> omega) _).setCell (by simp <;> omega) _).setCell (by simp <;> omega) _).setCell (by simp <;> omega) _).setCell (by simp <;> omega) _).drew
  have ow : OwE (((((WB.setCell ⟨w.heap.size + 1, 0, none⟩ (.int .i64 m1)).setCell ⟨w.heap.size + 1, 1, none⟩ (.int .i64 m2)).setCell ⟨w.heap.size + 1, 2, none⟩ (.slice A2 ms.length c2)).setCell ⟨w.heap.size + 1 + 1, 0, none⟩ (.int .i64 fa)).setCell ⟨w.heap.size + 1 + 1, 1, none⟩ (.int .i64 fb)).drew _ (.slice A2 ms.length c2) ms := (((((OEB.out.far (by show w.heap.size + 1 < _; omega) _).far (by show w.heap.size + 1 < _; omega) _).far (by show w.heap.size + 1 < _; omega) _).far (by show w.heap.size + 1 + 1 < _; omega) _).far (by show w.heap.size + 1 + 1 < _; omega) _).drew
  generalize (((((WB.setCell ⟨w.heap.size + 1, 0, none⟩ (.int .i64 m1)).setCell ⟨w.heap.size + 1, 1, none⟩ (.int .i64 m2)).setCell ⟨w.heap.size + 1, 2, none⟩ (.slice A2 ms.length c2)).setCell ⟨w.heap.size + 1 + 1, 0, none⟩ (.int .i64 fa)).setCell ⟨w.heap.size + 1 + 1, 1, none⟩ (.int .i64 fb)) = wf at *
  have d0' : wf.drew.cell? ⟨w.heap.size + 1, 0, none⟩ = some (.int .i64 m1) := d0
  have d1' : wf.drew.cell? ⟨w.heap.size + 1, 1, none⟩ = some (.int .i64 m2) := d1
  have d2' : wf.drew.cell? ⟨w.heap.size + 1, 2, none⟩ = some (.slice A2 ms.length c2) := d2
  have e0' : wf.drew.cell? ⟨w.heap.size + 1 + 1, 0, none⟩ = some (.int .i64 fa) := e0
  have e1' : wf.drew.cell? ⟨w.heap.size + 1 + 1, 1, none⟩ = some (.int .i64 fb) := e1
  generalize wf.drew = wg at *
  rw [FO.out, F.out]
  exact bodyPost_ret (v := .tuple #[.agg #[.int .i64 m1, .int .i64 m2, .slice A2 ms.length c2], .agg #[.int .i64 fa, .int .i64 fb], .bool true]) (by simp [results, Tryz.results140, go_sem, d0', d1', d2', e0', e1']) rfl ⟨_, rfl, ⟨.slice A2 ms.length c2, rfl, hj1, hj2, ow.mono (by omega)⟩, bw⟩
theorem once_folA {g : GrD} {f : FoD} {l : List FoD} (hg : grB g = true) (h : foL g.2.2 = f :: l) : folA (merG g f) = folA g := by
 have hf := foL_ok hg (f := f) (by rw [h]; simp)
 unfold folA
 obtain ⟨n, hn⟩ : ∃ n, g.2.1.toNat = n + 1 := ⟨g.2.1.toNat - 1, by omega⟩
 rw [hn, folF_cons h, show (merG g f).2.1.toNat = n by show (g.2.1 - 1).toNat = n; omega]
theorem folA_nil {g : GrD} (h : foL g.2.2 = []) : folA g = g := folF_nil h _
set_option maxHeartbeats 4000000 in
theorem specFoldAll_any (v : Value) (g : GrD) (w : World) (h : ArgG w v g) (hg : grB g = true) :
  Calls Tryz.prog 119 #[v] w fun e w' => ∃ r o, e = .returned (.tuple #[r, o]) ∧ OwG w' w.heap.size r (folA g) ∧ Below w.heap.size w w' := by
 have HG := Lib.hid h
 have HGR := Lib.hid hg
 obtain ⟨h13, h40, h120, _⟩ := grB_parts hg
 obtain ⟨s, rfl, hi1, hi2, ha⟩ := h
 obtain ⟨A, cap, rfl⟩ := ha.form
 obtain ⟨g1, N, es⟩ := g
 simp only at *
 clear ha hg
 go_enter Tryz.func119, Tryz.ntmps119
 have bx : Below w.heap.size w ((w.alloc (Obj.cells #[Value.int IntKind.i64 g1, Value.int IntKind.i64 N, .slice A es.length cap] 31)).alloc (Obj.cells #[Value.int IntKind.i64 0, Value.int IntKind.i64 0, .slice none 0 0] 31)) := (by repeat (first | exact Below.refl _ _ | (refine Below.setCell ?_ (by first | omega | (simp <;> omega)) _) | (refine bel_drewN ?_ _) | (refine Below.drew ?_) | (refine Below.alloc ?_ (by first | omega | (simp <;> omega)) _)))
 go_wp2_with fail
 obtain ⟨W, hW⟩ : ∃ W, W = ((w.alloc (Obj.cells #[Value.int IntKind.i64 g1, Value.int IntKind.i64 N, .slice A es.length cap] 31)).alloc (Obj.cells #[Value.int IntKind.i64 0, Value.int IntKind.i64 0, .slice none 0 0] 31)) := ⟨_, rfl⟩
 rw [← hW] at bx ⊢
 have hsW : W.heap.size = w.heap.size + 2 := by rw [hW]; simp
 have R0 : Hid (W.cell? ⟨w.heap.size + 1, 0, none⟩ = some (.int .i64 0)) := Lib.hid (by rw [hW]; simp [go_sem])
 have R1 : Hid (W.cell? ⟨w.heap.size + 1, 1, none⟩ = some (.int .i64 0)) := Lib.hid (by rw [hW]; simp [go_sem])
 have R2 : Hid (W.cell? ⟨w.heap.size + 1, 2, none⟩ = some (.slice none 0 0)) := Lib.hid (by rw [hW]; simp [go_sem])
 have RF : Hid (∀ j, W.frozen? ⟨w.heap.size + 1, j, none⟩ = false) := Lib.hid fun j => by rw [hW]; simp [go_sem]
 have BX := Lib.hid bx
 clear hW bx
 refine (l4Copy_any _ (g1, N, es) W (HG.out.below BX.out) (by simp only; omega)).mono ?_
 rintro e w1 ⟨r, rfl, o1, b1⟩
 have B1 := Lib.hid b1
 have hs1 := b1.size
 obtain ⟨s1, rfl, _, _, oe1⟩ := o1
 obtain ⟨A1, c1, rfl, _⟩ := oe1.form
 simp only at *
 have OE1 := Lib.hid oe1
 clear b1 oe1
 have HOU : Hid (OwFo ((w1.alloc (Obj.cells #[Value.int IntKind.i64 g1, Value.int IntKind.i64 N, .slice A1 es.length c1] 31)).alloc (.cells #[] 128)) (w1.heap.size + 1) (.slice (some ⟨w1.heap.size + 1, 0, none⟩) 0 0) []) := Lib.hid (by
  have := OwFo_lit (base := w1.heap.size + 1) (w1.alloc (Obj.cells #[Value.int IntKind.i64 g1, Value.int IntKind.i64 N, .slice A1 es.length c1] 31)) (by simp)
  simpa using this)
 have bX : Below w1.heap.size w1 ((w1.alloc (Obj.cells #[Value.int IntKind.i64 g1, Value.int IntKind.i64 N, .slice A1 es.length c1] 31)).alloc (.cells #[] 128)) := (by repeat (first | exact Below.refl _ _ | (refine Below.setCell ?_ (by first | omega | (simp <;> omega)) _) | (refine bel_drewN ?_ _) | (refine Below.drew ?_) | (refine Below.alloc ?_ (by first | omega | (simp <;> omega)) _)))
 go_wp2
 obtain ⟨W2, hW2⟩ : ∃ W, W = (w1.alloc (Obj.cells #[Value.int IntKind.i64 g1, Value.int IntKind.i64 N, .slice A1 es.length c1] 31)).alloc (.cells #[] 128) := ⟨_, rfl⟩
 rw [← hW2] at bX HOU ⊢
 have hsW2 : W2.heap.size = w1.heap.size + 2 := by rw [hW2]; simp
 have X0 : Hid (W2.cell? ⟨w1.heap.size, 0, none⟩ = some (.int .i64 g1)) := Lib.hid (by rw [hW2]; simp [go_sem])
 have X1 : Hid (W2.cell? ⟨w1.heap.size, 1, none⟩ = some (.int .i64 N)) := Lib.hid (by rw [hW2]; simp [go_sem])
 have X2 : Hid (W2.cell? ⟨w1.heap.size, 2, none⟩ = some (.slice A1 es.length c1)) := Lib.hid (by rw [hW2]; simp [go_sem])
 have XF : Hid (∀ j, W2.frozen? ⟨w1.heap.size, j, none⟩ = false) := Lib.hid fun j => by rw [hW2]; simp [go_sem]
 have BX2 := Lib.hid bX
 have OEX : Hid (OwE W2 (w.heap.size + 2) (.slice A1 es.length c1) es) := Lib.hid ((OE1.out.below bX).mono (by omega))
 have HNX : Hid (∀ b, (Value.slice A1 es.length c1).ownBlock = some b → b ≠ w1.heap.size) := Lib.hid fun b hb => by have := (OE1.out.1.lt b hb).2; omega
 clear hW2 bX OE1
 go_loopw [5, 6] (fun out i wr => ∃ (k : Nat) (gk : GrD) (A2 : Option Addr) (c2 : Nat) (lo : List FoD), k ≤ 40 ∧ i = .int .i64 k ∧ grB gk = true ∧ folA gk = folA (g1, N, es) ∧ gk.2.1 + k ≤ N ∧ lo.length ≤ k ∧ wr.cell? ⟨w1.heap.size, 0, none⟩ = some (.int .i64 gk.1) ∧ wr.cell? ⟨w1.heap.size, 1, none⟩ = some (.int .i64 gk.2.1) ∧ wr.cell? ⟨w1.heap.size, 2, none⟩ = some (.slice A2 gk.2.2.length c2) ∧
   (∀ j, wr.frozen? ⟨w1.heap.size, j, none⟩ = false) ∧ OwE wr (w.heap.size + 2) (.slice A2 gk.2.2.length c2) gk.2.2 ∧ (∀ b, (Value.slice A2 gk.2.2.length c2).ownBlock = some b → b ≠ w1.heap.size) ∧ OwFo wr (w1.heap.size + 1) out lo ∧ Below w1.heap.size w1 wr ∧ w1.heap.size < wr.heap.size) (fun _ i _ => 40 - (intOf i).toNat)
 case atStart => exact ⟨0, (g1, N, es), A1, c1, [], Nat.zero_le _, rfl, HGR.out, rfl, by simp, by simp, X0.out, X1.out, X2.out, XF.out, OEX.out, HNX.out, HOU.out, BX2.out, by omega⟩
 case round =>
  obtain ⟨k, gk, A2, c2, lo, hk, rfl, hgk, hfa, hsz, hlo, hx0, hx1, hx2, hxf, hoe, hnx, hof, hbr, hxr⟩ := hrel
  obtain ⟨k13, k40, k120, _⟩ := grB_parts hgk
  have HGK := Lib.hid hgk
  have HFA := Lib.hid hfa
  have HOE := Lib.hid hoe
  have HNX2 := Lib.hid hnx
  have HOF := Lib.hid hof
  have HBR := Lib.hid hbr
  have B4 := Lib.hid (B1.out.trans (hbr.mono hs1))
  have HAK : Hid (ArgG wr (.agg #[.int .i64 gk.1, .int .i64 gk.2.1, .slice A2 gk.2.2.length c2]) gk) := Lib.hid ⟨_, rfl, (by unfold I64; omega), (by unfold I64; omega), hoe.arg⟩
  obtain ⟨wk, rfl⟩ : ∃ wk : World, wk = wr := ⟨_, rfl⟩
  clear hgk hfa hoe hnx hof hbr
  have hk40 : k < 40 := by omega
  have hkI : (k : Int) < 40 := by omega
  go_wp2_with fail
  refine (specFoldOnce_any _ gk wk HAK.out HGK.out).mono ?_
  rintro e w5 ⟨r, rfl, o5, b5⟩
  have hs5 := b5.size
  have B5 := Lib.hid (HBR.out.trans (b5.mono (by omega)))
  have z0 := (b5.cell (p := ⟨w1.heap.size, 0, none⟩) hxr).trans hx0
  have z1 := (b5.cell (p := ⟨w1.heap.size, 1, none⟩) hxr).trans hx1
  have z2 := (b5.cell (p := ⟨w1.heap.size, 2, none⟩) hxr).trans hx2
  have ZF : Hid (∀ j, w5.frozen? ⟨w1.heap.size, j, none⟩ = false) := Lib.hid fun j => (b5.frozen (p := ⟨w1.heap.size, j, none⟩) hxr).trans (hxf j)
  have HOE5 := Lib.hid (HOE.out.below b5)
  have HOF5 := Lib.hid (HOF.out.below b5)
  clear hx0 hx1 hx2 hxf b5
  rcases ef : foL gk.2.2 with _ | ⟨f, l⟩
  ·have F : Hid (firF gk = ((0, 0), false)) := Lib.hid (by unfold firF; rw [if_pos HGK.out]; simp only [ef])
   have FO : Hid (onceG gk = gk) := Lib.hid (by unfold onceG; simp only [ef])
   have FAG : Hid (folA (g1, N, es) = gk) := Lib.hid (by rw [← HFA.out]; exact folA_nil ef)
   clear ef
   rw [FO.out] at o5
   rw [F.out]
   simp only
   obtain ⟨s5, rfl, hj1, hj2, oe5⟩ := o5
   obtain ⟨A5, c5, rfl, _⟩ := oe5.form
   obtain ⟨Ao, co, hov, _⟩ := HOF5.out.form
   subst hov
   have bY : Below w5.heap.size w5 ((w5.alloc (Obj.cells #[Value.int IntKind.i64 gk.1, Value.int IntKind.i64 gk.2.1, .slice A5 gk.2.2.length c5] 31)).alloc (Obj.cells #[Value.int IntKind.i64 0, Value.int IntKind.i64 0] 128)) := (by repeat (first | exact Below.refl _ _ | (refine Below.setCell ?_ (by first | omega | (simp <;> omega)) _) | (refine bel_drewN ?_ _) | (refine Below.drew ?_) | (refine Below.alloc ?_ (by first | omega | (simp <;> omega)) _)))
   obtain ⟨WY, hWY⟩ : ∃ W, W = (w5.alloc (Obj.cells #[Value.int IntKind.i64 gk.1, Value.int IntKind.i64 gk.2.1, .slice A5 gk.2.2.length c5] 31)).alloc (Obj.cells #[Value.int IntKind.i64 0, Value.int IntKind.i64 0] 128) := ⟨_, rfl⟩
   rw [← hWY] at bY
   have BY := Lib.hid (B5.out.trans (bY.mono (by omega)))
   have BYW := Lib.hid (B1.out.trans (BY.out.mono hs1))
   have y0 := (bY.cell (p := ⟨w1.heap.size, 0, none⟩) (by show w1.heap.size < _; omega)).trans z0
   have y1 := (bY.cell (p := ⟨w1.heap.size, 1, none⟩) (by show w1.heap.size < _; omega)).trans z1
   have y2 := (bY.cell (p := ⟨w1.heap.size, 2, none⟩) (by show w1.heap.size < _; omega)).trans z2
   have r0 := (BYW.out.cell (p := ⟨w.heap.size + 1, 0, none⟩) (by show w.heap.size + 1 < _; omega)).trans R0.out
   have r1 := (BYW.out.cell (p := ⟨w.heap.size + 1, 1, none⟩) (by show w.heap.size + 1 < _; omega)).trans R1.out
   have r2 := (BYW.out.cell (p := ⟨w.heap.size + 1, 2, none⟩) (by show w.heap.size + 1 < _; omega)).trans R2.out
   have rf0 := (BYW.out.frozen (p := ⟨w.heap.size + 1, 0, none⟩) (by show w.heap.size + 1 < _; omega)).trans (RF.out 0)
   have rf1 := (BYW.out.frozen (p := ⟨w.heap.size + 1, 1, none⟩) (by show w.heap.size + 1 < _; omega)).trans (RF.out 1)
   have rf2 := (BYW.out.frozen (p := ⟨w.heap.size + 1, 2, none⟩) (by show w.heap.size + 1 < _; omega)).trans (RF.out 2)
   have hne1 : w.heap.size + 1 ≠ w1.heap.size := by omega
   have HBF := Lib.hid (BX.out.trans (BYW.out.mono BX.out.size))
   have OEY := Lib.hid (HOE5.out.below bY)
   rw [hWY] at y0 y1 y2 r0 r1 r2 rf0 rf1 rf2
   clear z0 z1 z2 oe5 bY
   go_wp2
   rw [← hWY] at y0 y1 y2 r0 r1 r2 rf0 rf1 rf2 ⊢
   obtain ⟨e0, e1, e2⟩ := cells3F (.int .i64 gk.1) (.int .i64 gk.2.1) (.slice A2 gk.2.2.length c2) r0 r1 r2
   have bw : Below w.heap.size w (((WY.setCell ⟨w.heap.size + 1, 0, none⟩ (.int .i64 gk.1)).setCell ⟨w.heap.size + 1, 1, none⟩ (.int .i64 gk.2.1)).setCell ⟨w.heap.size + 1, 2, none⟩ (.slice A2 gk.2.2.length c2)) := (((HBF.out.setCell (by simp <;> omega) _).setCell (by simp <;> omega) _).setCell (by simp <;> omega) _)
   have ow : OwE (((WY.setCell ⟨w.heap.size + 1, 0, none⟩ (.int .i64 gk.1)).setCell ⟨w.heap.size + 1, 1, none⟩ (.int .i64 gk.2.1)).setCell ⟨w.heap.size + 1, 2, none⟩ (.slice A2 gk.2.2.length c2)) (w.heap.size + 2) (.slice A2 gk.2.2.length c2) gk.2.2 := ((OEY.out.far (by show w.heap.size + 1 < _; omega) _).far (by show w.heap.size + 1 < _; omega) _).far (by show w.heap.size + 1 < _; omega) _
   generalize (((WY.setCell ⟨w.heap.size + 1, 0, none⟩ (.int .i64 gk.1)).setCell ⟨w.heap.size + 1, 1, none⟩ (.int .i64 gk.2.1)).setCell ⟨w.heap.size + 1, 2, none⟩ (.slice A2 gk.2.2.length c2)) = wf at *
   rw [FAG.out]
   exact bodyPost_ret (v := .tuple #[.agg #[.int .i64 gk.1, .int .i64 gk.2.1, .slice A2 gk.2.2.length c2], .slice Ao lo.length co]) (by simp [results, Tryz.results119, go_sem, e0, e1, e2]) rfl ⟨_, _, rfl, ⟨.slice A2 gk.2.2.length c2, rfl, hj1, hj2, ow.mono (by omega)⟩, bw⟩
  ·have F : Hid (firF gk = (f, true)) := Lib.hid (by unfold firF; rw [if_pos HGK.out]; simp only [ef])
   have FO : Hid (onceG gk = merG gk f) := Lib.hid (by unfold onceG; simp only [ef])
   have hfk := foL_ok HGK.out (f := f) (by rw [ef]; simp)
   have HGM := Lib.hid (grB_merG HGK.out hfk)
   have HFM := Lib.hid ((once_folA HGK.out ef).trans HFA.out)
   have hm2 : (merG gk f).2.1 = gk.2.1 - 1 := rfl
   clear ef
   rw [FO.out] at o5
   rw [F.out]
   obtain ⟨fa, fb⟩ := f
   simp only
   generalize merG gk (fa, fb) = M at *
   obtain ⟨m1, m2, ms⟩ := M
   simp only at hm2
   obtain ⟨s5, rfl, hj1, hj2, oe5⟩ := o5
   obtain ⟨A5, c5, rfl, _⟩ := oe5.form
   simp only at hj1 hj2 oe5
   have HM2 := Lib.hid hm2
   clear hm2
   have bY : Below w5.heap.size w5 ((w5.alloc (Obj.cells #[Value.int IntKind.i64 m1, Value.int IntKind.i64 m2, .slice A5 ms.length c5] 31)).alloc (Obj.cells #[Value.int IntKind.i64 fa, Value.int IntKind.i64 fb] 128)) := (by repeat (first | exact Below.refl _ _ | (refine Below.setCell ?_ (by first | omega | (simp <;> omega)) _) | (refine bel_drewN ?_ _) | (refine Below.drew ?_) | (refine Below.alloc ?_ (by first | omega | (simp <;> omega)) _)))
   obtain ⟨WY, hWY⟩ : ∃ W, W = (w5.alloc (Obj.cells #[Value.int IntKind.i64 m1, Value.int IntKind.i64 m2, .slice A5 ms.length c5] 31)).alloc (Obj.cells #[Value.int IntKind.i64 fa, Value.int IntKind.i64 fb] 128) := ⟨_, rfl⟩
   have a0 : WY.cell? ⟨w5.heap.size, 0, none⟩ = some (.int .i64 m1) := by rw [hWY]; simp [go_sem]
   have a1 : WY.cell? ⟨w5.heap.size, 1, none⟩ = some (.int .i64 m2) := by rw [hWY]; simp [go_sem]
   have a2 : WY.cell? ⟨w5.heap.size, 2, none⟩ = some (.slice A5 ms.length c5) := by rw [hWY]; simp [go_sem]
   have a3 : WY.cell? ⟨w5.heap.size + 1, 0, none⟩ = some (.int .i64 fa) := by rw [hWY]; simp [go_sem]
   have a4 : WY.cell? ⟨w5.heap.size + 1, 1, none⟩ = some (.int .i64 fb) := by rw [hWY]; simp [go_sem]
   have hsY : WY.heap.size = w5.heap.size + 2 := by rw [hWY]; simp
   rw [← hWY] at bY
   have BY := Lib.hid (B5.out.trans (bY.mono (by omega)))
   have y0 := (bY.cell (p := ⟨w1.heap.size, 0, none⟩) (by show w1.heap.size < _; omega)).trans z0
   have y1 := (bY.cell (p := ⟨w1.heap.size, 1, none⟩) (by show w1.heap.size < _; omega)).trans z1
   have y2 := (bY.cell (p := ⟨w1.heap.size, 2, none⟩) (by show w1.heap.size < _; omega)).trans z2
   have YF : Hid (∀ j, WY.frozen? ⟨w1.heap.size, j, none⟩ = false) := Lib.hid fun j => (bY.frozen (p := ⟨w1.heap.size, j, none⟩) (by show w1.heap.size < _; omega)).trans (ZF.out j)
   have yf0 := YF.out 0
   have yf1 := YF.out 1
   have yf2 := YF.out 2
   have OEM := Lib.hid (oe5.below bY)
   have OFY := Lib.hid (HOF5.out.below bY)
   obtain ⟨e0, e1, e2⟩ := cells3F (.int .i64 m1) (.int .i64 m2) (.slice A5 ms.length c5) y0 y1 y2
   have e3 := setc_other (b' := w1.heap.size) (o' := 2) (u := .slice A5 ms.length c5) (show w5.heap.size + 1 ≠ w1.heap.size by omega) (setc_other (b' := w1.heap.size) (o' := 1) (u := .int .i64 m2) (show w5.heap.size + 1 ≠ w1.heap.size by omega) (setc_other (b' := w1.heap.size) (o' := 0) (u := .int .i64 m1) (show w5.heap.size + 1 ≠ w1.heap.size by omega) a3))
   have e4 := setc_other (b' := w1.heap.size) (o' := 2) (u := .slice A5 ms.length c5) (show w5.heap.size + 1 ≠ w1.heap.size by omega) (setc_other (b' := w1.heap.size) (o' := 1) (u := .int .i64 m2) (show w5.heap.size + 1 ≠ w1.heap.size by omega) (setc_other (b' := w1.heap.size) (o' := 0) (u := .int .i64 m1) (show w5.heap.size + 1 ≠ w1.heap.size by omega) a4))
   have BS : Hid (Below w1.heap.size w1 (((WY.setCell ⟨w1.heap.size, 0, none⟩ (.int .i64 m1)).setCell ⟨w1.heap.size, 1, none⟩ (.int .i64 m2)).setCell ⟨w1.heap.size, 2, none⟩ (.slice A5 ms.length c5))) := Lib.hid (((BY.out.setCell (Nat.le_refl _) _).setCell (Nat.le_refl _) _).setCell (Nat.le_refl _) _)
   have OES : Hid (OwE (((WY.setCell ⟨w1.heap.size, 0, none⟩ (.int .i64 m1)).setCell ⟨w1.heap.size, 1, none⟩ (.int .i64 m2)).setCell ⟨w1.heap.size, 2, none⟩ (.slice A5 ms.length c5)) wk.heap.size (.slice A5 ms.length c5) ms) := Lib.hid (((OEM.out.far (by show w1.heap.size < _; omega) _).far (by show w1.heap.size < _; omega) _).far (by show w1.heap.size < _; omega) _)
   have OFS : Hid (OwFo (((WY.setCell ⟨w1.heap.size, 0, none⟩ (.int .i64 m1)).setCell ⟨w1.heap.size, 1, none⟩ (.int .i64 m2)).setCell ⟨w1.heap.size, 2, none⟩ (.slice A5 ms.length c5)) (w1.heap.size + 1) u5 lo) := Lib.hid (ownsRow_setCell_below (ownsRow_setCell_below (ownsRow_setCell_below OFY.out (by show w1.heap.size < _; omega) _) (by show w1.heap.size < _; omega) _) (by show w1.heap.size < _; omega) _)
   have ESF : Hid (∀ j, ((((WY.setCell ⟨w1.heap.size, 0, none⟩ (.int .i64 m1)).setCell ⟨w1.heap.size, 1, none⟩ (.int .i64 m2)).setCell ⟨w1.heap.size, 2, none⟩ (.slice A5 ms.length c5))).frozen? ⟨w1.heap.size, j, none⟩ = false) := Lib.hid fun j => by rw [World.frozen?_setCell, World.frozen?_setCell, World.frozen?_setCell]; exact YF.out j
   have hsS : ((((WY.setCell ⟨w1.heap.size, 0, none⟩ (.int .i64 m1)).setCell ⟨w1.heap.size, 1, none⟩ (.int .i64 m2)).setCell ⟨w1.heap.size, 2, none⟩ (.slice A5 ms.length c5))).heap.size = WY.heap.size := by simp
   clear z0 z1 z2 oe5 bY
   have E0 := Lib.hid e0
   have E1 := Lib.hid e1
   have E2 := Lib.hid e2
   have E3 := Lib.hid e3
   have E4 := Lib.hid e4
   have HSS := Lib.hid hsS
   clear e0 e1 e2 a3 a4 hsS
   rw [hWY] at y0 y1 y2 yf0 yf1 yf2 a0 a1 a2 e3 e4
   have HWY := Lib.hid hWY
   clear hWY
   have hw5x : w1.heap.size ≠ w5.heap.size := by omega
   have hw5y : w1.heap.size ≠ w5.heap.size + 1 := by omega
   go_wp2_with (at_builtin; rw [← HWY.out]; refine push_fold rfl (.tmp 28) (.tmp 30) rfl (w1.heap.size + 1) _ lo (OFS.out.alloc _) rfl _ (fa, fb) rfl (fo_litN _ _ (by simp <;> omega) _ _ _) (by omega) (by simp <;> omega) ?_; intro v6 w6 o6 g6 p6; have O6 := Lib.hid o6; have G6 := Lib.hid g6; clear o6 g6 p6)
   have e0 := E0.out
   have e1 := E1.out
   have e2 := E2.out
   have bL : Below ((((WY.setCell ⟨w1.heap.size, 0, none⟩ (.int .i64 m1)).setCell ⟨w1.heap.size, 1, none⟩ (.int .i64 m2)).setCell ⟨w1.heap.size, 2, none⟩ (.slice A5 ms.length c5))).heap.size (((WY.setCell ⟨w1.heap.size, 0, none⟩ (.int .i64 m1)).setCell ⟨w1.heap.size, 1, none⟩ (.int .i64 m2)).setCell ⟨w1.heap.size, 2, none⟩ (.slice A5 ms.length c5)) ((((WY.setCell ⟨w1.heap.size, 0, none⟩ (.int .i64 m1)).setCell ⟨w1.heap.size, 1, none⟩ (.int .i64 m2)).setCell ⟨w1.heap.size, 2, none⟩ (.slice A5 ms.length c5)).alloc (Obj.cells #[Value.int IntKind.i64 fa, Value.int IntKind.i64 fb] 128)) := (Below.refl _ _).alloc (Nat.le_refl _) _
   have hxL : w1.heap.size < ((((WY.setCell ⟨w1.heap.size, 0, none⟩ (.int .i64 m1)).setCell ⟨w1.heap.size, 1, none⟩ (.int .i64 m2)).setCell ⟨w1.heap.size, 2, none⟩ (.slice A5 ms.length c5))).heap.size := by simp <;> omega
   have hxG : w1.heap.size < ((((WY.setCell ⟨w1.heap.size, 0, none⟩ (.int .i64 m1)).setCell ⟨w1.heap.size, 1, none⟩ (.int .i64 m2)).setCell ⟨w1.heap.size, 2, none⟩ (.slice A5 ms.length c5)).alloc (Obj.cells #[Value.int IntKind.i64 fa, Value.int IntKind.i64 fb] 128)).heap.size := by simp <;> omega
   have hGO : ∀ c, u5.ownBlock = some c → w1.heap.size + 1 ≤ c ∧ c < wk.heap.size := fun c hc => HOF.out.lt c hc
   have n0 := (grown_cellF (o := 0) G6.out hxG (fun c hc => by have := (hGO c hc).1; omega)).trans ((bL.cell (p := ⟨w1.heap.size, 0, none⟩) hxL).trans e0)
   have n1 := (grown_cellF (o := 1) G6.out hxG (fun c hc => by have := (hGO c hc).1; omega)).trans ((bL.cell (p := ⟨w1.heap.size, 1, none⟩) hxL).trans e1)
   have n2 := (grown_cellF (o := 2) G6.out hxG (fun c hc => by have := (hGO c hc).1; omega)).trans ((bL.cell (p := ⟨w1.heap.size, 2, none⟩) hxL).trans e2)
   have nf : ∀ j, w6.frozen? ⟨w1.heap.size, j, none⟩ = false := fun j => (World.frozen?_of_block (G6.out.block w1.heap.size hxG fun e => by have := (hGO w1.heap.size e.symm).1; omega)).trans ((bL.frozen (p := ⟨w1.heap.size, j, none⟩) hxL).trans (ESF.out j))
   have NE : Hid (OwE w6 (w.heap.size + 2) (.slice A5 ms.length c5) ms) := Lib.hid (OwE.mono (OwE.keep OES.out fun b hb => by
    have hb2 := OES.out.1.lt b hb
    exact (G6.out.block b (by have := bL.size; omega) fun e => by have := (hGO b e.symm).2; omega).trans (bL.block b hb2.2)) (by omega))
   have NX : Hid (∀ b, (Value.slice A5 ms.length c5).ownBlock = some b → b ≠ w1.heap.size) := Lib.hid fun b hb => by have := (OES.out.1.lt b hb).1; omega
   have NB : Hid (Below w1.heap.size w1 w6) := Lib.hid ((BS.out.trans (bL.mono (by omega))).grown G6.out (by omega) (fun c hc => by have := (hGO c hc).1; omega))
   have hs6 := G6.out.size
   go_roundw
   case rel => exact ⟨k + 1, (m1, m2, ms), A5, c5, lo ++ [(fa, fb)], by omega, by go_num, HGM.out, HFM.out, by have := HM2.out; simp only; omega, by rw [List.length_append]; simp only [List.length_singleton]; omega, n0, n1, n2, nf, NE.out, NX.out, O6.out, NB.out, by omega⟩
   case measure => simp [intOf]; omega
end Go.Proofs.YtfadnkjlilhneaaGreat
