/- Folding a graph: the reference's functions. -/
import Derived.Test.YtgifhaadfmomcaaGreatFoldP
namespace Go.Proofs.YtgifhaadfmomcaaGreat
set_option maxRecDepth 20000
set_option linter.unusedVariables false
set_option linter.unusedSimpArgs false
open Go.RowKit

def foC (f : FoD) : List Value := [.int .i64 f.1, .int .i64 f.2]
def foCs (l : List FoD) : List Value := (l.map foC).flatten
theorem foCs_snoc (l : List FoD) (f : FoD) : foCs (l ++ [f]) = foCs l ++ foC f := by simp [foCs]
/-- A row of folds of one's own. -/
def OwFo (w : World) (base : Nat) (v : Value) (l : List FoD) : Prop := w.ownsRow base 44 2 v l.length (foCs l)
section
variable {w w' : World} {base : Nat} {v : Value} {l : List FoD}
theorem OwFo.below (h : OwFo w base v l) (hb : Below w.heap.size w w') : OwFo w' base v l := ownsRow_below h hb
theorem OwFo.alloc (h : OwFo w base v l) (o : Obj) : OwFo (w.alloc o) base v l := World.ownsRow.alloc h o
theorem OwFo.mono {base' : Nat} (h : OwFo w base v l) (hb : base' ≤ base) : OwFo w base' v l := by
  refine ⟨h.1, ?_⟩
  rcases h.2 with h0 | ⟨g, cap, cur, hv, hg, r⟩
  · exact .inl h0
  · exact .inr ⟨g, cap, cur, hv, Nat.le_trans hb hg, r⟩
theorem OwFo.form (h : OwFo w base v l) : ∃ A cap, v = .slice A l.length cap ∧ l.length ≤ cap ∧ cap ≤ maxLen ∧ (A = none → cap = 0) ∧ (0 < l.length → ∃ g, A = some ⟨g, 0, none⟩ ∧ base ≤ g ∧ g < w.heap.size) := owns_form h
end
theorem fold_info : (Tryz.prog.info? 44).map (fun i => (i.zero, i.size, i.bytes)) = some (some (.agg #[.int .i64 0, .int .i64 0]), 2, 16) := by kernel_rfl
theorem push_fold {w : World} {ops : Array Oper} {rest : List Oper} {o : Oper} {a : Act} {R : Exit → Act → World → Prop} (hgd : o.guard = none) (s x : Operand)
    (ho : o.op = .call { callee := .builtin .append, args := #[s, x], argTypes := #[55, 55] })
    (base : Nat) (v : Value) (l : List FoD) (hown : OwFo w base v l) (hs : a.eval s = v) (b : Nat) (f : FoD) (hx : a.eval x = .slice (some ⟨b, 0, none⟩) 1 1)
    (hc : ∀ j u, (foC f)[j]? = some u → w.cell? ⟨b, j, none⟩ = some u) (hl : l.length ≤ 1073741824) (hbase : base ≤ w.heap.size)
    (h : ∀ v' w', OwFo w' base v' (l ++ [f]) → w.grownBy w' v.ownBlock → (v'.ownBlock = v.ownBlock ∨ v'.ownBlock = some w.heap.size) → wpList Tryz.prog ops R rest (a.put o.dst v') w') :
    wpList Tryz.prog ops R (o :: rest) a w := by
  obtain ⟨i0, hi0, hz0, hz1, hz2⟩ := info_parts fold_info
  refine wpList_append_own_at _ hgd s x 55 ho base 44 i0 _ 2 16 Tryz.underlying55 hi0 hz0 hz1 hz2 rfl (by decide) v l.length (foCs l) hs hown ⟨b, 0, none⟩ 1 1 (foC f) hx rfl ?_ ?_ (by unfold maxLen; omega) (by omega) hbase ?_
  · intro j u hj
    rw [Addr.add_lit, Nat.zero_add]
    exact hc j u hj
  · intro u hu
    simp [foC] at hu
    rcases hu with rfl | rfl <;> rfl
  · intro v' w' h1 h2 h3 h5
    refine h v' w' ?_ h2 h5
    unfold OwFo
    rw [foCs_snoc, List.length_append]
    exact h1
theorem fo_lit (w : World) (a b : Value) (t : TypeId) : ∀ j u, [a, b][j]? = some u → (w.alloc (.cells #[a, b] t)).cell? ⟨w.heap.size, j, none⟩ = some u := by
  intro j u hj
  match j, hj with
  | 0, hj => simp at hj; subst hj; simp [go_sem]
  | 1, hj => simp at hj; subst hj; simp [go_sem]
theorem fo_litN (w : World) (N : Nat) (hN : w.heap.size = N) (a b : Value) (t : TypeId) : ∀ j u, [a, b][j]? = some u → (w.alloc (.cells #[a, b] t)).cell? ⟨N, j, none⟩ = some u := by
  subst hN; exact fo_lit w a b t
theorem grown_cellF {w w' : World} {row : Option Nat} (hg : w.grownBy w' row) {b o : Nat} (hlt : b < w.heap.size) (hne : ∀ c, row = some c → c ≠ b) : w'.cell? ⟨b, o, none⟩ = w.cell? ⟨b, o, none⟩ :=
  World.cell?_of_block (hg.block b hlt fun e => hne b e.symm rfl)
theorem OwFo_lit (w : World) {base : Nat} (h : base ≤ w.heap.size) : OwFo (w.alloc (.cells #[] 44)) base (.slice (some ⟨w.heap.size, 0, none⟩) 0 0) [] := by
  have := World.ownsRow_lit (e := 44) (size := 2) (base := base) w #[] 0 h (by unfold maxLen; omega) (by simp)
  simpa [OwFo, foCs] using this
theorem min_if (a b : Int) : min a b = if b < a then b else a := by
  rw [Int.min_def]; split <;> split <;> omega
theorem max_if (a b : Int) : max a b = if a < b then b else a := by
  rw [Int.max_def]; split <;> split <;> omega
set_option maxHeartbeats 1000000 in
theorem l7Folds_any (v : Value) (g : GrD) (w : World) (h : ArgG w v g) (hl : g.2.2.length ≤ 120) :
    Calls Tryz.prog 94 #[v] w fun e w' => ∃ r, e = .returned r ∧ OwFo w' w.heap.size r (foL g.2.2) ∧ Below w.heap.size w w' := by
  obtain ⟨s, rfl, hi1, hi2, ha⟩ := h
  obtain ⟨A, cap, rfl⟩ := ha.form
  obtain ⟨g1, N, es⟩ := g
  simp only at *
  have HAE := Lib.hid ha
  clear ha
  have HUL := Lib.hid (foUp_len es)
  have HAL := Lib.hid (foAt_len es)
  go_enter Tryz.func94, Tryz.ntmps94
  have bx : Below w.heap.size w ((w.alloc (Obj.cells #[Value.int IntKind.i64 g1, Value.int IntKind.i64 N, .slice A es.length cap] 30)).alloc (.cells #[] 44)) := (by repeat (first | exact Below.refl _ _ | (refine Below.setCell ?_ (by first | omega | (simp <;> omega)) _) | (refine bel_drewN ?_ _) | (refine Below.drew ?_) | (refine Below.alloc ?_ (by first | omega | (simp <;> omega)) _)))
  have HOU : Hid (OwFo ((w.alloc (Obj.cells #[Value.int IntKind.i64 g1, Value.int IntKind.i64 N, .slice A es.length cap] 30)).alloc (.cells #[] 44)) (w.heap.size + 1) (.slice (some ⟨w.heap.size + 1, 0, none⟩) 0 0) []) := Lib.hid (by
    have := OwFo_lit (base := w.heap.size + 1) (w.alloc (Obj.cells #[Value.int IntKind.i64 g1, Value.int IntKind.i64 N, .slice A es.length cap] 30)) (by simp)
    simpa using this)
  go_wp2
  obtain ⟨W, hW⟩ : ∃ W, W = (w.alloc (Obj.cells #[Value.int IntKind.i64 g1, Value.int IntKind.i64 N, .slice A es.length cap] 30)).alloc (.cells #[] 44) := ⟨_, rfl⟩
  rw [← hW] at bx HOU ⊢
  have hsW : W.heap.size = w.heap.size + 2 := by rw [hW]; simp
  have L2 : Hid (W.cell? ⟨w.heap.size, 2, none⟩ = some (.slice A es.length cap)) := Lib.hid (by rw [hW]; simp [go_sem])
  have BX := Lib.hid bx
  have HA : Hid (∀ w', Below (w.heap.size + 1) W w' → ArgE w' (.slice A es.length cap) es) := Lib.hid fun w' hb => HAE.out.below (BX.out.trans (hb.mono (by omega)))
  clear hW bx
  go_loopw [3, 4] (fun out i wr => ∃ k : Nat, k ≤ es.length ∧ i = .int .i64 k ∧ OwFo wr (w.heap.size + 1) out (foUp es k) ∧ Below (w.heap.size + 1) W wr) (fun _ i _ => es.length - (intOf i).toNat)
  case atStart => exact ⟨0, Nat.zero_le _, rfl, HOU.out, (Below.refl W.heap.size W).mono (by omega)⟩
  case round =>
    obtain ⟨i, hi, rfl, ho, hb⟩ := hrel
    have HO := Lib.hid ho
    have HB := Lib.hid hb
    obtain ⟨wi, rfl⟩ : ∃ wi : World, wi = wr := ⟨_, rfl⟩
    clear ho hb
    have q2 := (HB.out.cell (p := ⟨w.heap.size, 2, none⟩) (by show w.heap.size < w.heap.size + 1; omega)).trans L2.out
    by_cases hlt : i < es.length
    · have HO1 : Hid (OwFo wi (w.heap.size + 1) u3 (foUp es i ++ foAt es i (i + 1))) := Lib.hid (by rw [foAt_start, List.append_nil]; exact HO.out)
      have HFU := Lib.hid (show foUp es (i + 1) = foUp es i ++ foAt es i es.length from rfl)
      have hiI : (i : Int) < (es.length : Int) := by omega
      go_wp2
      go_loopw [3, 5] (fun out k wr => ∃ j : Nat, i < j ∧ j ≤ es.length ∧ k = .int .i64 j ∧ OwFo wr (w.heap.size + 1) out (foUp es i ++ foAt es i j) ∧ Below (w.heap.size + 1) W wr) (fun _ k _ => es.length - (intOf k).toNat)
      case atStart => exact ⟨i + 1, by omega, by omega, by go_num, HO1.out, HB.out⟩
      case round =>
        obtain ⟨j, hij, hj, rfl, ho, hb⟩ := hrel
        have HO2 := Lib.hid ho
        have HB2 := Lib.hid hb
        obtain ⟨wj, rfl⟩ : ∃ wj : World, wj = wr := ⟨_, rfl⟩
        clear ho hb q2
        have q2 := (HB2.out.cell (p := ⟨w.heap.size, 2, none⟩) (by show w.heap.size < w.heap.size + 1; omega)).trans L2.out
        by_cases hlt2 : j < es.length
        · obtain ⟨b, off, rfl, hbw, a0, a1, a2, _⟩ := (HA.out wj HB2.out).at hlt
          obtain ⟨b', off', hA, _, c0, c1, c2, _⟩ := (HA.out wj HB2.out).at hlt2
          injection hA with hA
          injection hA with e1 e2
          subst e1 e2
          have HST := Lib.hid (foAt_succ es i j hlt2 hij)
          rw [show es.getD i (0, 0, 0) = es[i] by simp [List.getD, hlt]] at HST
          have hln : (foUp es i ++ foAt es i j).length ≤ 1000000 := by
            have h1 := HUL.out i
            have h2 := HAL.out i j
            have h3 : 2 * es.length * i ≤ 240 * 120 := Nat.mul_le_mul (by omega) (by omega)
            rw [List.length_append]
            omega
          have hbase := HB2.out.size
          generalize es[i] = d at *
          generalize es[j] = d' at *
          obtain ⟨d1, d2, d3⟩ := d
          obtain ⟨f1, f2, f3⟩ := d'
          simp only at a0 a1 a2 c0 c1 c2
          have hjI : (j : Int) < (es.length : Int) := by omega
          generalize foAt es i j = FA at *
          have hwj : w.heap.size < wj.heap.size := by omega
          have bA : Below wj.heap.size wj (wj.alloc (Obj.cells #[Value.int IntKind.i64 d1, Value.int IntKind.i64 d2, Value.int IntKind.i64 d3] 52)) := (Below.refl _ _).alloc (Nat.le_refl _) _
          have q2' := (bA.cell (p := ⟨w.heap.size, 2, none⟩) hwj).trans q2
          have c0' := (bA.cell (p := ⟨b, off + j * 3, none⟩) hbw).trans c0
          have c1' := (bA.cell (p := ⟨b, off + j * 3 + 1, none⟩) hbw).trans c1
          have c2' := (bA.cell (p := ⟨b, off + j * 3 + 2, none⟩) hbw).trans c2
          clear bA
          rcases e1 : (d2 == f2) with _ | _
          · have HE : Hid (foAt es i (j + 1) = FA) := Lib.hid (by have hne : d2 ≠ f2 := (by simpa using e1); rw [HST.out]; simp [fo2, hne])
            go_wp2
            go_roundw
            case rel => exact ⟨j + 1, by omega, by omega, by go_num, by rw [HE.out]; exact (HO2.out.alloc _).alloc _, ((HB2.out.alloc (by omega) _).alloc (by simp; omega) _)⟩
            case measure => simp [intOf]; omega
          have HBW : Hid (Below (w.heap.size + 1) W ((wj.alloc (Obj.cells #[Value.int IntKind.i64 d1, Value.int IntKind.i64 d2, Value.int IntKind.i64 d3] 52)).alloc (Obj.cells #[Value.int IntKind.i64 f1, Value.int IntKind.i64 f2, Value.int IntKind.i64 f3] 52))) := Lib.hid ((HB2.out.alloc (by omega) _).alloc (by simp; omega) _)
          rcases e2 : (d1 == f1) with _ | _
          · rcases e3 : (d3 == f3) with _ | _
            · have HE : Hid (foUp es i ++ foAt es i (j + 1) = foUp es i ++ FA) := Lib.hid (by have h1 : d2 = f2 := (by simpa using e1); have h2 : ¬ d1 = f1 := (by simpa using e2); have h3 : ¬ d3 = f3 := (by simpa using e3); rw [HST.out]; simp [fo2, h1, h2, h3])
              go_wp2
              go_roundw
              case rel => exact ⟨j + 1, by omega, by omega, by go_num, by rw [HE.out]; exact (HO2.out.alloc _).alloc _, HBW.out⟩
              case measure => simp [intOf]; omega
            · have HE : Hid (foUp es i ++ foAt es i (j + 1) = (foUp es i ++ FA) ++ [(min d1 f1, max d1 f1)]) := Lib.hid (by have h1 : d2 = f2 := (by simpa using e1); have h2 : ¬ d1 = f1 := (by simpa using e2); have h3 : d3 = f3 := (by simpa using e3); rw [HST.out]; simp [fo2, h1, h2, h3])
              go_wp2_with (at_builtin; refine push_fold rfl (.tmp 73) (.tmp 85) rfl (w.heap.size + 1) _ _ (((HO2.out.alloc _).alloc _).alloc _) rfl _ (min d1 f1, max d1 f1) rfl (fo_litN _ _ (by simp) _ _ _) (by omega) (by simp <;> omega) ?_; intro v6 w6 o6 g6 p6; have O6 := Lib.hid o6; have B6 : Hid (Below (w.heap.size + 1) W w6) := Lib.hid ((HBW.out.alloc (by simp <;> omega) (Obj.cells #[Value.int IntKind.i64 (min d1 f1), Value.int IntKind.i64 (max d1 f1)] 44)).grown g6 (by simp <;> omega) (fun k hk => (HO2.out.lt k hk).1)); clear o6 g6 p6)
              go_roundw
              case rel => exact ⟨j + 1, by omega, by omega, by go_num, by rw [HE.out]; exact O6.out, B6.out⟩
              case measure => simp [intOf]; omega
          · rcases e3 : (d3 == f3) with _ | _
            · have HE : Hid (foUp es i ++ foAt es i (j + 1) = (foUp es i ++ FA) ++ [(min d3 f3, max d3 f3)]) := Lib.hid (by have h1 : d2 = f2 := (by simpa using e1); have h2 : d1 = f1 := (by simpa using e2); have h3 : ¬ d3 = f3 := (by simpa using e3); rw [HST.out]; simp [fo2, h1, h2, h3])
              go_wp2_with (at_builtin; refine push_fold rfl (.tmp 47) (.tmp 59) rfl (w.heap.size + 1) _ _ (((HO2.out.alloc _).alloc _).alloc _) rfl _ (min d3 f3, max d3 f3) rfl (fo_litN _ _ (by simp) _ _ _) (by omega) (by simp <;> omega) ?_; intro v5 w5 o5 g5 p5; have k0 := (grown_cellF g5 (b := wj.heap.size) (o := 0) (by simp <;> omega) (fun c hc => by have := (HO2.out.lt c hc).2; omega)).trans (show (((wj.alloc (Obj.cells #[Value.int IntKind.i64 d1, Value.int IntKind.i64 d2, Value.int IntKind.i64 d3] 52)).alloc (Obj.cells #[Value.int IntKind.i64 f1, Value.int IntKind.i64 f2, Value.int IntKind.i64 f3] 52)).alloc (Obj.cells #[Value.int IntKind.i64 (min d3 f3), Value.int IntKind.i64 (max d3 f3)] 44)).cell? _ = some (.int .i64 d1) by simp [go_sem]); have k1 := (grown_cellF g5 (b := wj.heap.size) (o := 1) (by simp <;> omega) (fun c hc => by have := (HO2.out.lt c hc).2; omega)).trans (show (((wj.alloc (Obj.cells #[Value.int IntKind.i64 d1, Value.int IntKind.i64 d2, Value.int IntKind.i64 d3] 52)).alloc (Obj.cells #[Value.int IntKind.i64 f1, Value.int IntKind.i64 f2, Value.int IntKind.i64 f3] 52)).alloc (Obj.cells #[Value.int IntKind.i64 (min d3 f3), Value.int IntKind.i64 (max d3 f3)] 44)).cell? _ = some (.int .i64 d2) by simp [go_sem]); have k2 := (grown_cellF g5 (b := wj.heap.size) (o := 2) (by simp <;> omega) (fun c hc => by have := (HO2.out.lt c hc).2; omega)).trans (show (((wj.alloc (Obj.cells #[Value.int IntKind.i64 d1, Value.int IntKind.i64 d2, Value.int IntKind.i64 d3] 52)).alloc (Obj.cells #[Value.int IntKind.i64 f1, Value.int IntKind.i64 f2, Value.int IntKind.i64 f3] 52)).alloc (Obj.cells #[Value.int IntKind.i64 (min d3 f3), Value.int IntKind.i64 (max d3 f3)] 44)).cell? _ = some (.int .i64 d3) by simp [go_sem]); have k3 := (grown_cellF g5 (b := wj.heap.size + 1) (o := 0) (by simp <;> omega) (fun c hc => by have := (HO2.out.lt c hc).2; omega)).trans (show (((wj.alloc (Obj.cells #[Value.int IntKind.i64 d1, Value.int IntKind.i64 d2, Value.int IntKind.i64 d3] 52)).alloc (Obj.cells #[Value.int IntKind.i64 f1, Value.int IntKind.i64 f2, Value.int IntKind.i64 f3] 52)).alloc (Obj.cells #[Value.int IntKind.i64 (min d3 f3), Value.int IntKind.i64 (max d3 f3)] 44)).cell? _ = some (.int .i64 f1) by simp [go_sem]); have k4 := (grown_cellF g5 (b := wj.heap.size + 1) (o := 1) (by simp <;> omega) (fun c hc => by have := (HO2.out.lt c hc).2; omega)).trans (show (((wj.alloc (Obj.cells #[Value.int IntKind.i64 d1, Value.int IntKind.i64 d2, Value.int IntKind.i64 d3] 52)).alloc (Obj.cells #[Value.int IntKind.i64 f1, Value.int IntKind.i64 f2, Value.int IntKind.i64 f3] 52)).alloc (Obj.cells #[Value.int IntKind.i64 (min d3 f3), Value.int IntKind.i64 (max d3 f3)] 44)).cell? _ = some (.int .i64 f2) by simp [go_sem]); have k5 := (grown_cellF g5 (b := wj.heap.size + 1) (o := 2) (by simp <;> omega) (fun c hc => by have := (HO2.out.lt c hc).2; omega)).trans (show (((wj.alloc (Obj.cells #[Value.int IntKind.i64 d1, Value.int IntKind.i64 d2, Value.int IntKind.i64 d3] 52)).alloc (Obj.cells #[Value.int IntKind.i64 f1, Value.int IntKind.i64 f2, Value.int IntKind.i64 f3] 52)).alloc (Obj.cells #[Value.int IntKind.i64 (min d3 f3), Value.int IntKind.i64 (max d3 f3)] 44)).cell? _ = some (.int .i64 f3) by simp [go_sem]); have O5 := Lib.hid o5; have B5 : Hid (Below (w.heap.size + 1) W w5) := Lib.hid ((HBW.out.alloc (by simp <;> omega) (Obj.cells #[Value.int IntKind.i64 (min d3 f3), Value.int IntKind.i64 (max d3 f3)] 44)).grown g5 (by simp <;> omega) (fun k hk => (HO2.out.lt k hk).1)); have hz5 := B5.out.size; clear o5 g5 p5)
              go_roundw
              case rel => exact ⟨j + 1, by omega, by omega, by go_num, by rw [HE.out]; exact O5.out, B5.out⟩
              case measure => simp [intOf]; omega
            · have HE : Hid (foUp es i ++ foAt es i (j + 1) = ((foUp es i ++ FA) ++ [(min d3 f3, max d3 f3)]) ++ [(min d1 f1, max d1 f1)]) := Lib.hid (by have h1 : d2 = f2 := (by simpa using e1); have h2 : d1 = f1 := (by simpa using e2); have h3 : d3 = f3 := (by simpa using e3); rw [HST.out]; simp [fo2, h1, h2, h3])
              go_wp2_with (first | (at_builtin; refine push_fold rfl (.tmp 47) (.tmp 59) rfl (w.heap.size + 1) _ _ (((HO2.out.alloc _).alloc _).alloc _) rfl _ (min d3 f3, max d3 f3) rfl (fo_litN _ _ (by simp) _ _ _) (by omega) (by simp <;> omega) ?_; intro v5 w5 o5 g5 p5; have k0 := (grown_cellF g5 (b := wj.heap.size) (o := 0) (by simp <;> omega) (fun c hc => by have := (HO2.out.lt c hc).2; omega)).trans (show (((wj.alloc (Obj.cells #[Value.int IntKind.i64 d1, Value.int IntKind.i64 d2, Value.int IntKind.i64 d3] 52)).alloc (Obj.cells #[Value.int IntKind.i64 f1, Value.int IntKind.i64 f2, Value.int IntKind.i64 f3] 52)).alloc (Obj.cells #[Value.int IntKind.i64 (min d3 f3), Value.int IntKind.i64 (max d3 f3)] 44)).cell? _ = some (.int .i64 d1) by simp [go_sem]); have k1 := (grown_cellF g5 (b := wj.heap.size) (o := 1) (by simp <;> omega) (fun c hc => by have := (HO2.out.lt c hc).2; omega)).trans (show (((wj.alloc (Obj.cells #[Value.int IntKind.i64 d1, Value.int IntKind.i64 d2, Value.int IntKind.i64 d3] 52)).alloc (Obj.cells #[Value.int IntKind.i64 f1, Value.int IntKind.i64 f2, Value.int IntKind.i64 f3] 52)).alloc (Obj.cells #[Value.int IntKind.i64 (min d3 f3), Value.int IntKind.i64 (max d3 f3)] 44)).cell? _ = some (.int .i64 d2) by simp [go_sem]); have k2 := (grown_cellF g5 (b := wj.heap.size) (o := 2) (by simp <;> omega) (fun c hc => by have := (HO2.out.lt c hc).2; omega)).trans (show (((wj.alloc (Obj.cells #[Value.int IntKind.i64 d1, Value.int IntKind.i64 d2, Value.int IntKind.i64 d3] 52)).alloc (Obj.cells #[Value.int IntKind.i64 f1, Value.int IntKind.i64 f2, Value.int IntKind.i64 f3] 52)).alloc (Obj.cells #[Value.int IntKind.i64 (min d3 f3), Value.int IntKind.i64 (max d3 f3)] 44)).cell? _ = some (.int .i64 d3) by simp [go_sem]); have k3 := (grown_cellF g5 (b := wj.heap.size + 1) (o := 0) (by simp <;> omega) (fun c hc => by have := (HO2.out.lt c hc).2; omega)).trans (show (((wj.alloc (Obj.cells #[Value.int IntKind.i64 d1, Value.int IntKind.i64 d2, Value.int IntKind.i64 d3] 52)).alloc (Obj.cells #[Value.int IntKind.i64 f1, Value.int IntKind.i64 f2, Value.int IntKind.i64 f3] 52)).alloc (Obj.cells #[Value.int IntKind.i64 (min d3 f3), Value.int IntKind.i64 (max d3 f3)] 44)).cell? _ = some (.int .i64 f1) by simp [go_sem]); have k4 := (grown_cellF g5 (b := wj.heap.size + 1) (o := 1) (by simp <;> omega) (fun c hc => by have := (HO2.out.lt c hc).2; omega)).trans (show (((wj.alloc (Obj.cells #[Value.int IntKind.i64 d1, Value.int IntKind.i64 d2, Value.int IntKind.i64 d3] 52)).alloc (Obj.cells #[Value.int IntKind.i64 f1, Value.int IntKind.i64 f2, Value.int IntKind.i64 f3] 52)).alloc (Obj.cells #[Value.int IntKind.i64 (min d3 f3), Value.int IntKind.i64 (max d3 f3)] 44)).cell? _ = some (.int .i64 f2) by simp [go_sem]); have k5 := (grown_cellF g5 (b := wj.heap.size + 1) (o := 2) (by simp <;> omega) (fun c hc => by have := (HO2.out.lt c hc).2; omega)).trans (show (((wj.alloc (Obj.cells #[Value.int IntKind.i64 d1, Value.int IntKind.i64 d2, Value.int IntKind.i64 d3] 52)).alloc (Obj.cells #[Value.int IntKind.i64 f1, Value.int IntKind.i64 f2, Value.int IntKind.i64 f3] 52)).alloc (Obj.cells #[Value.int IntKind.i64 (min d3 f3), Value.int IntKind.i64 (max d3 f3)] 44)).cell? _ = some (.int .i64 f3) by simp [go_sem]); have O5 := Lib.hid o5; have B5 : Hid (Below (w.heap.size + 1) W w5) := Lib.hid ((HBW.out.alloc (by simp <;> omega) (Obj.cells #[Value.int IntKind.i64 (min d3 f3), Value.int IntKind.i64 (max d3 f3)] 44)).grown g5 (by simp <;> omega) (fun k hk => (HO2.out.lt k hk).1)); have hz5 := B5.out.size; clear o5 g5 p5) | (at_builtin; refine push_fold rfl (.tmp 73) (.tmp 85) rfl (w.heap.size + 1) _ _ (O5.out.alloc _) rfl _ (min d1 f1, max d1 f1) rfl (fo_litN _ _ (by simp) _ _ _) (by rw [List.length_append]; simp only [List.length_singleton]; omega) (by simp <;> omega) ?_; intro v6 w6 o6 g6 p6; have O6 := Lib.hid o6; have B6 : Hid (Below (w.heap.size + 1) W w6) := Lib.hid ((B5.out.alloc (by omega) (Obj.cells #[Value.int IntKind.i64 (min d1 f1), Value.int IntKind.i64 (max d1 f1)] 44)).grown g6 (by simp <;> omega) (fun k hk => (O5.out.lt k hk).1)); clear o6 g6 p6))
              go_roundw
              case rel => exact ⟨j + 1, by omega, by omega, by go_num, by rw [HE.out]; exact O6.out, B6.out⟩
              case measure => simp [intOf]; omega
        · obtain rfl : j = es.length := by omega
          go_wp2
          go_roundw
          case rel => exact ⟨i + 1, by omega, by go_num, by rw [HFU.out]; exact HO2.out, HB2.out⟩
          case measure => simp [intOf]; omega
    · obtain rfl : i = es.length := by omega
      obtain ⟨Ao, co, hov, _⟩ := HO.out.form
      subst hov
      have HOF := Lib.hid (HO.out.mono (show w.heap.size ≤ w.heap.size + 1 by omega))
      have HBF : Hid (Below w.heap.size w wi) := Lib.hid (BX.out.trans (HB.out.mono (by omega)))
      go_wp2
      go_ret
      exact ⟨_, rfl, HOF.out, HBF.out⟩
end Go.Proofs.YtgifhaadfmomcaaGreat
