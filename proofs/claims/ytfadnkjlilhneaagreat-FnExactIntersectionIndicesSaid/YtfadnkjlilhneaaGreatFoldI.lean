/- Folding a graph: the program's functions. -/
import Derived.Test.YtfadnkjlilhneaaGreatFoldU
import Derived.Test.YtfadnkjlilhneaaGreatCoreI
namespace Go.Proofs.YtfadnkjlilhneaaGreat
set_option maxRecDepth 20000
set_option linter.unusedVariables false
set_option linter.unusedSimpArgs false
open Go.RowKit

theorem own_ne {v v' : Value} {x n : Nat} (h : ∀ c, v.ownBlock = some c → c ≠ x) (hat : v'.ownBlock = v.ownBlock ∨ v'.ownBlock = some n) (hn : n ≠ x) : ∀ c, v'.ownBlock = some c → c ≠ x := fun c hc => by
 rcases hat with q | q
 ·exact h c (by rw [← q]; exact hc)
 ·rw [q] at hc; injection hc with hc; omega
set_option maxHeartbeats 2000000 in
theorem implFolds_any (v : Value) (g : GrD) (w : World) (h : ArgG w v g) (hl : g.2.2.length ≤ 120) :
  Calls Tryz.prog 175 #[v] w fun e w' => ∃ r, e = .returned r ∧ OwFo w' w.heap.size r (foL g.2.2) ∧ Below w.heap.size w w' := by
 obtain ⟨s, rfl, hi1, hi2, ha⟩ := h
 obtain ⟨A, cap, rfl, hcap, hmx, _⟩ := id ha
 obtain ⟨g1, N, es⟩ := g
 simp only at *
 have HAE := Lib.hid ha
 clear ha
 have HUL := Lib.hid (foUp_len es)
 have HAL := Lib.hid (foAt_len es)
 go_enter Tryz.func175, Tryz.ntmps175
 have bx : Below w.heap.size w ((w.alloc (Obj.cells #[Value.int IntKind.i64 g1, Value.int IntKind.i64 N, .slice A es.length cap] 31)).alloc (.cells #[] 128)) := (by repeat (first | exact Below.refl _ _ | (refine Below.setCell ?_ (by first | omega | (simp <;> omega)) _) | (refine bel_drewN ?_ _) | (refine Below.drew ?_) | (refine Below.alloc ?_ (by first | omega | (simp <;> omega)) _)))
 have HOU : Hid (OwFo ((w.alloc (Obj.cells #[Value.int IntKind.i64 g1, Value.int IntKind.i64 N, .slice A es.length cap] 31)).alloc (.cells #[] 128)) (w.heap.size + 1) (.slice (some ⟨w.heap.size + 1, 0, none⟩) 0 0) []) := Lib.hid (by
  have := OwFo_lit (base := w.heap.size + 1) (w.alloc (Obj.cells #[Value.int IntKind.i64 g1, Value.int IntKind.i64 N, .slice A es.length cap] 31)) (by simp)
  simpa using this)
 go_wp2
 obtain ⟨W, hW⟩ : ∃ W, W = ((w.alloc (Obj.cells #[Value.int IntKind.i64 g1, Value.int IntKind.i64 N, .slice A es.length cap] 31)).alloc (.cells #[] 128)) := ⟨_, rfl⟩
 rw [← hW] at bx HOU ⊢
 have hsW : W.heap.size = w.heap.size + 2 := by rw [hW]; simp
 have L2 : Hid (W.cell? ⟨w.heap.size, 2, none⟩ = some (.slice A es.length cap)) := Lib.hid (by rw [hW]; simp [go_sem])
 have BX := Lib.hid bx
 have HA : Hid (∀ w', Below (w.heap.size + 1) W w' → ArgE w' (.slice A es.length cap) es) := Lib.hid fun w' hb => HAE.out.below (BX.out.trans (hb.mono (by omega)))
 clear hW bx
 go_loopw [3, 12] (fun out i wr => ∃ k : Nat, k ≤ es.length ∧ i = .int .i64 k ∧ OwFo wr (w.heap.size + 1) out (foUp es k) ∧ Below (w.heap.size + 1) W wr) (fun _ i _ => es.length - (intOf i).toNat)
 case atStart => exact ⟨0, Nat.zero_le _, rfl, HOU.out, (Below.refl W.heap.size W).mono (by omega)⟩
 case round =>
  obtain ⟨i, hi, rfl, ho, hb⟩ := hrel
  have HO := Lib.hid ho
  have HB := Lib.hid hb
  obtain ⟨wi, rfl⟩ : ∃ wi : World, wi = wr := ⟨_, rfl⟩
  clear ho hb
  have hwi := HB.out.size
  by_cases hlt : i < es.length
  ·have HO1 : Hid (OwFo wi (w.heap.size + 1) u3 (foUp es i ++ foAt es i (i + 1))) := Lib.hid (by rw [foAt_start, List.append_nil]; exact HO.out)
   have HFU := Lib.hid (show foUp es (i + 1) = foUp es i ++ foAt es i es.length from rfl)
   have hiI : (i : Int) < (es.length : Int) := by omega
   obtain ⟨b, off, rfl, hbw, a0, a1, a2, _⟩ := (HA.out wi HB.out).at hlt
   have HGI : Hid (es.getD i (0, 0, 0) = es[i]) := Lib.hid (by simp [List.getD, hlt])
   generalize es[i] = d at *
   obtain ⟨d1, d2, d3⟩ := d
   simp only at a0 a1 a2
   have bA : Below wi.heap.size wi (wi.alloc (Obj.cells #[Value.int IntKind.i64 d1, Value.int IntKind.i64 d2, Value.int IntKind.i64 d3] 54)) := (Below.refl _ _).alloc (Nat.le_refl _) _
   have BA := Lib.hid (HB.out.trans (bA.mono (by omega)))
   have q2 := (BA.out.cell (p := ⟨w.heap.size, 2, none⟩) (by show w.heap.size < w.heap.size + 1; omega)).trans L2.out
   have HOA := Lib.hid (HO1.out.alloc (Obj.cells #[Value.int IntKind.i64 d1, Value.int IntKind.i64 d2, Value.int IntKind.i64 d3] 54))
   have X0 : Hid ((wi.alloc (Obj.cells #[Value.int IntKind.i64 d1, Value.int IntKind.i64 d2, Value.int IntKind.i64 d3] 54)).cell? ⟨wi.heap.size, 0, none⟩ = some (.int .i64 d1)) := Lib.hid (by simp [go_sem])
   have X1 : Hid ((wi.alloc (Obj.cells #[Value.int IntKind.i64 d1, Value.int IntKind.i64 d2, Value.int IntKind.i64 d3] 54)).cell? ⟨wi.heap.size, 1, none⟩ = some (.int .i64 d2)) := Lib.hid (by simp [go_sem])
   have X2 : Hid ((wi.alloc (Obj.cells #[Value.int IntKind.i64 d1, Value.int IntKind.i64 d2, Value.int IntKind.i64 d3] 54)).cell? ⟨wi.heap.size, 2, none⟩ = some (.int .i64 d3)) := Lib.hid (by simp [go_sem])
   have hsA : (wi.alloc (Obj.cells #[Value.int IntKind.i64 d1, Value.int IntKind.i64 d2, Value.int IntKind.i64 d3] 54)).heap.size = wi.heap.size + 1 := by simp
   have HN0 : Hid (∀ c, u3.ownBlock = some c → c ≠ wi.heap.size) := Lib.hid fun c hc => by have := (HO.out.lt c hc).2; omega
   have hw1 : IntKind.i64.wrap ((i : Int) + 1) = (i : Int) + 1 := by rw [IntKind.wrap_i64]; omega
   have hs0 : (0 : Int) ≤ (i : Int) + 1 := by omega
   have hs1 : (i : Int) + 1 ≤ (es.length : Int) := by omega
   have hsn : ((i : Int) + 1).toNat = i + 1 := by omega
   have hsc : (es.length : Int) ≤ (cap : Int) := by omega
   clear bA
   by_cases hcp : cap = i + 1
   ·have hlast : es.length = i + 1 := by omega
    have HZ := Lib.hid (show es.length - (i + 1) = 0 by omega)
    have HFL : Hid (foUp es (i + 1) = foUp es i) := Lib.hid (by rw [HFU.out, hlast, foAt_start, List.append_nil])
    have HOI : Hid (OwFo (wi.alloc (Obj.cells #[Value.int IntKind.i64 d1, Value.int IntKind.i64 d2, Value.int IntKind.i64 d3] 54)) (w.heap.size + 1) u3 (foUp es i)) := Lib.hid (HO.out.alloc _)
    clear hlast
    go_wp2
    rw [HZ.out]
    go_loopw [3, 23] (fun out k wr => k = .int .i64 0 ∧ OwFo wr (w.heap.size + 1) out (foUp es i) ∧ Below (w.heap.size + 1) W wr) (fun _ _ _ => 0)
    case atStart => exact ⟨rfl, HOI.out, BA.out⟩
    case round =>
     obtain ⟨rfl, ho2, hb2⟩ := hrel
     have HO2 := Lib.hid ho2
     have HB2 := Lib.hid hb2
     clear ho2 hb2
     go_wp2
     go_roundw
     case rel => exact ⟨i + 1, by omega, by go_num, by rw [HFL.out]; exact HO2.out, HB2.out⟩
     case measure => simp [intOf]; omega
   ·have hlen : es.length - (i + 1) + (i + 1) = es.length := by omega
    have HLEN := Lib.hid hlen
    obtain ⟨rem, hrem⟩ : ∃ r, r = es.length - (i + 1) := ⟨_, rfl⟩
    have hrl : rem + (i + 1) = es.length := by omega
    have HREM := Lib.hid hrem
    clear hrem hlen
    go_wp2
    rw [← HREM.out]
    obtain ⟨WA, hWA⟩ : ∃ W, W = (wi.alloc (Obj.cells #[Value.int IntKind.i64 d1, Value.int IntKind.i64 d2, Value.int IntKind.i64 d3] 54)) := ⟨_, rfl⟩
    rw [← hWA] at BA HOA X0 X1 X2 q2 ⊢
    have hsA' : WA.heap.size = wi.heap.size + 1 := by rw [hWA]; exact hsA
    clear hWA a0 a1 a2 hsA q2
    go_loopw [3, 23] (fun out k wr => ∃ q : Nat, q ≤ rem ∧ k = .int .i64 q ∧ OwFo wr (w.heap.size + 1) out (foUp es i ++ foAt es i (i + 1 + q)) ∧ Below (w.heap.size + 1) W wr ∧ wr.cell? ⟨wi.heap.size, 0, none⟩ = some (.int .i64 d1) ∧ wr.cell? ⟨wi.heap.size, 1, none⟩ = some (.int .i64 d2) ∧ wr.cell? ⟨wi.heap.size, 2, none⟩ = some (.int .i64 d3) ∧ (∀ c, out.ownBlock = some c → c ≠ wi.heap.size) ∧ wi.heap.size < wr.heap.size) (fun _ k _ => rem - (intOf k).toNat)
    case atStart => exact ⟨0, Nat.zero_le _, rfl, HOA.out, BA.out, X0.out, X1.out, X2.out, HN0.out, by omega⟩
    case round =>
     obtain ⟨q, hq, rfl, ho2, hb2, x0, x1, x2, hxn, hxr⟩ := hrel
     have HO2 := Lib.hid ho2
     have HB2 := Lib.hid hb2
     have HXN := Lib.hid hxn
     obtain ⟨wj, rfl⟩ : ∃ wj : World, wj = wr := ⟨_, rfl⟩
     clear ho2 hb2 hxn
     have hbase := HB2.out.size
     by_cases hlt2 : q < rem
     ·have hjl : i + 1 + q < es.length := by omega
      obtain ⟨b', off', hA, hbj, c0, c1, c2, _⟩ := (HA.out wj HB2.out).at hjl
      injection hA with hA
      injection hA with e1 e2
      subst e1 e2
      have HST := Lib.hid (foAt_succ es i (i + 1 + q) hjl (by omega))
      rw [HGI.out] at HST
      have hln : (foUp es i ++ foAt es i (i + 1 + q)).length ≤ 1000000 := by
       have h1 := HUL.out i
       have h2 := HAL.out i (i + 1 + q)
       have h3 : 2 * es.length * i ≤ 240 * 120 := Nat.mul_le_mul (by omega) (by omega)
       rw [List.length_append]
       omega
      rw [show off + (i + 1 + q) * 3 = off + (i + 1) * 3 + q * 3 by omega] at c0 c1 c2
      generalize es[i + 1 + q] = d' at *
      obtain ⟨f1, f2, f3⟩ := d'
      simp only at c0 c1 c2
      have hqI : (q : Int) < (rem : Int) := by omega
      generalize foAt es i (i + 1 + q) = FA at *
      have hxj : wi.heap.size ≠ wj.heap.size := by omega
      have bB : Below wj.heap.size wj (wj.alloc (Obj.cells #[Value.int IntKind.i64 f1, Value.int IntKind.i64 f2, Value.int IntKind.i64 f3] 54)) := (Below.refl _ _).alloc (Nat.le_refl _) _
      have HBW : Hid (Below (w.heap.size + 1) W (wj.alloc (Obj.cells #[Value.int IntKind.i64 f1, Value.int IntKind.i64 f2, Value.int IntKind.i64 f3] 54))) := Lib.hid (HB2.out.alloc (by omega) _)
      have x0' := (bB.cell (p := ⟨wi.heap.size, 0, none⟩) hxr).trans x0
      have x1' := (bB.cell (p := ⟨wi.heap.size, 1, none⟩) hxr).trans x1
      have x2' := (bB.cell (p := ⟨wi.heap.size, 2, none⟩) hxr).trans x2
      clear bB
      rcases e1 : (d2 == f2) with _ | _
      ·have HE : Hid (foUp es i ++ foAt es i (i + 1 + (q + 1)) = foUp es i ++ FA) := Lib.hid (by have hne : d2 ≠ f2 := (by simpa using e1); rw [show i + 1 + (q + 1) = i + 1 + q + 1 by omega, HST.out]; simp [fo2, hne])
       have hne : ¬ d2 = f2 := by simpa using e1
       have hne' : (d2 != f2) = true := by simpa using e1
       go_wp2
       go_roundw
       case rel => exact ⟨q + 1, by omega, by go_num, by rw [HE.out]; exact HO2.out.alloc _, HBW.out, x0', x1', x2', HXN.out, by simp <;> omega⟩
       case measure => simp [intOf]; omega
      have heq' : (d2 != f2) = false := by simpa using e1
      rcases e2 : (d1 == f1) with _ | _
      ·rcases e3 : (d3 == f3) with _ | _
       ·have HE : Hid (foUp es i ++ foAt es i (i + 1 + (q + 1)) = foUp es i ++ FA) := Lib.hid (by have h1 : d2 = f2 := (by simpa using e1); have h2 : ¬ d1 = f1 := (by simpa using e2); have h3 : ¬ d3 = f3 := (by simpa using e3); rw [show i + 1 + (q + 1) = i + 1 + q + 1 by omega, HST.out]; simp [fo2, h1, h2, h3])
        go_wp2
        go_roundw
        case rel => exact ⟨q + 1, by omega, by go_num, by rw [HE.out]; exact HO2.out.alloc _, HBW.out, x0', x1', x2', HXN.out, by simp <;> omega⟩
        case measure => simp [intOf]; omega
       ·have HE : Hid (foUp es i ++ foAt es i (i + 1 + (q + 1)) = (foUp es i ++ FA) ++ [(min d1 f1, max d1 f1)]) := Lib.hid (by have h1 : d2 = f2 := (by simpa using e1); have h2 : ¬ d1 = f1 := (by simpa using e2); have h3 : d3 = f3 := (by simpa using e3); rw [show i + 1 + (q + 1) = i + 1 + q + 1 by omega, HST.out]; simp [fo2, h1, h2, h3])
        go_wp2_with (at_builtin; refine push_fold rfl (.tmp 56) (.tmp 68) rfl (w.heap.size + 1) _ _ ((HO2.out.alloc _).alloc _) rfl _ (min d1 f1, max d1 f1) rfl (fo_litN _ _ (by simp) _ _ _) (by omega) (by simp <;> omega) ?_; intro v6 w6 o6 g6 p6; have k0 := (grown_cellF g6 (b := wi.heap.size) (o := 0) (by simp <;> omega) (fun c hc => by have h1 := (HO2.out.lt c hc).2; have h2 := HXN.out c hc; omega)).trans (((((Below.refl wj.heap.size wj).alloc (Nat.le_refl _) (Obj.cells #[Value.int IntKind.i64 f1, Value.int IntKind.i64 f2, Value.int IntKind.i64 f3] 54)).alloc (by simp <;> omega) (Obj.cells #[Value.int IntKind.i64 (min d1 f1), Value.int IntKind.i64 (max d1 f1)] 128)).cell (p := ⟨wi.heap.size, 0, none⟩) (by show wi.heap.size < _; omega)).trans x0); have k1 := (grown_cellF g6 (b := wi.heap.size) (o := 1) (by simp <;> omega) (fun c hc => by have h1 := (HO2.out.lt c hc).2; have h2 := HXN.out c hc; omega)).trans (((((Below.refl wj.heap.size wj).alloc (Nat.le_refl _) (Obj.cells #[Value.int IntKind.i64 f1, Value.int IntKind.i64 f2, Value.int IntKind.i64 f3] 54)).alloc (by simp <;> omega) (Obj.cells #[Value.int IntKind.i64 (min d1 f1), Value.int IntKind.i64 (max d1 f1)] 128)).cell (p := ⟨wi.heap.size, 1, none⟩) (by show wi.heap.size < _; omega)).trans x1); have k2 := (grown_cellF g6 (b := wi.heap.size) (o := 2) (by simp <;> omega) (fun c hc => by have h1 := (HO2.out.lt c hc).2; have h2 := HXN.out c hc; omega)).trans (((((Below.refl wj.heap.size wj).alloc (Nat.le_refl _) (Obj.cells #[Value.int IntKind.i64 f1, Value.int IntKind.i64 f2, Value.int IntKind.i64 f3] 54)).alloc (by simp <;> omega) (Obj.cells #[Value.int IntKind.i64 (min d1 f1), Value.int IntKind.i64 (max d1 f1)] 128)).cell (p := ⟨wi.heap.size, 2, none⟩) (by show wi.heap.size < _; omega)).trans x2); have k3 := (grown_cellF g6 (b := wj.heap.size) (o := 0) (by simp <;> omega) (fun c hc => by have h1 := (HO2.out.lt c hc).2; have h2 := HXN.out c hc; omega)).trans ((show ((wj.alloc (Obj.cells #[Value.int IntKind.i64 f1, Value.int IntKind.i64 f2, Value.int IntKind.i64 f3] 54)).alloc (Obj.cells #[Value.int IntKind.i64 (min d1 f1), Value.int IntKind.i64 (max d1 f1)] 128)).cell? _ = some (.int .i64 f1) by simp [go_sem])); have k4 := (grown_cellF g6 (b := wj.heap.size) (o := 1) (by simp <;> omega) (fun c hc => by have h1 := (HO2.out.lt c hc).2; have h2 := HXN.out c hc; omega)).trans ((show ((wj.alloc (Obj.cells #[Value.int IntKind.i64 f1, Value.int IntKind.i64 f2, Value.int IntKind.i64 f3] 54)).alloc (Obj.cells #[Value.int IntKind.i64 (min d1 f1), Value.int IntKind.i64 (max d1 f1)] 128)).cell? _ = some (.int .i64 f2) by simp [go_sem])); have k5 := (grown_cellF g6 (b := wj.heap.size) (o := 2) (by simp <;> omega) (fun c hc => by have h1 := (HO2.out.lt c hc).2; have h2 := HXN.out c hc; omega)).trans ((show ((wj.alloc (Obj.cells #[Value.int IntKind.i64 f1, Value.int IntKind.i64 f2, Value.int IntKind.i64 f3] 54)).alloc (Obj.cells #[Value.int IntKind.i64 (min d1 f1), Value.int IntKind.i64 (max d1 f1)] 128)).cell? _ = some (.int .i64 f3) by simp [go_sem])); have O6 := Lib.hid o6; have B6 : Hid (Below (w.heap.size + 1) W w6) := Lib.hid (((HB2.out.alloc (by omega) (Obj.cells #[Value.int IntKind.i64 f1, Value.int IntKind.i64 f2, Value.int IntKind.i64 f3] 54)).alloc (by simp <;> omega) (Obj.cells #[Value.int IntKind.i64 (min d1 f1), Value.int IntKind.i64 (max d1 f1)] 128)).grown g6 (by simp <;> omega) (fun k hk => (HO2.out.lt k hk).1)); have P6 := Lib.hid p6; have hq6 : wj.heap.size + 2 ≤ w6.heap.size := (by have := g6.size; simp at this; omega); clear o6 g6 p6)
        go_roundw
        case rel => exact ⟨q + 1, by omega, by go_num, by rw [HE.out]; exact O6.out, B6.out, k0, k1, k2, own_ne HXN.out P6.out (by simp <;> omega), by omega⟩
        case measure => simp [intOf]; omega
      ·rcases e3 : (d3 == f3) with _ | _
       ·have HE : Hid (foUp es i ++ foAt es i (i + 1 + (q + 1)) = (foUp es i ++ FA) ++ [(min d3 f3, max d3 f3)]) := Lib.hid (by have h1 : d2 = f2 := (by simpa using e1); have h2 : d1 = f1 := (by simpa using e2); have h3 : ¬ d3 = f3 := (by simpa using e3); rw [show i + 1 + (q + 1) = i + 1 + q + 1 by omega, HST.out]; simp [fo2, h1, h2, h3])
        go_wp2_with (at_builtin; refine push_fold rfl (.tmp 37) (.tmp 49) rfl (w.heap.size + 1) _ _ ((HO2.out.alloc _).alloc _) rfl _ (min d3 f3, max d3 f3) rfl (fo_litN _ _ (by simp) _ _ _) (by omega) (by simp <;> omega) ?_; intro v5 w5 o5 g5 p5; have k0 := (grown_cellF g5 (b := wi.heap.size) (o := 0) (by simp <;> omega) (fun c hc => by have h1 := (HO2.out.lt c hc).2; have h2 := HXN.out c hc; omega)).trans (((((Below.refl wj.heap.size wj).alloc (Nat.le_refl _) (Obj.cells #[Value.int IntKind.i64 f1, Value.int IntKind.i64 f2, Value.int IntKind.i64 f3] 54)).alloc (by simp <;> omega) (Obj.cells #[Value.int IntKind.i64 (min d3 f3), Value.int IntKind.i64 (max d3 f3)] 128)).cell (p := ⟨wi.heap.size, 0, none⟩) (by show wi.heap.size < _; omega)).trans x0); have k1 := (grown_cellF g5 (b := wi.heap.size) (o := 1) (by simp <;> omega) (fun c hc => by have h1 := (HO2.out.lt c hc).2; have h2 := HXN.out c hc; omega)).trans (((((Below.refl wj.heap.size wj).alloc (Nat.le_refl _) (Obj.cells #[Value.int IntKind.i64 f1, Value.int IntKind.i64 f2, Value.int IntKind.i64 f3] 54)).alloc (by simp <;> omega) (Obj.cells #[Value.int IntKind.i64 (min d3 f3), Value.int IntKind.i64 (max d3 f3)] 128)).cell (p := ⟨wi.heap.size, 1, none⟩) (by show wi.heap.size < _; omega)).trans x1); have k2 := (grown_cellF g5 (b := wi.heap.size) (o := 2) (by simp <;> omega) (fun c hc => by have h1 := (HO2.out.lt c hc).2; have h2 := HXN.out c hc; omega)).trans (((((Below.refl wj.heap.size wj).alloc (Nat.le_refl _) (Obj.cells #[Value.int IntKind.i64 f1, Value.int IntKind.i64 f2, Value.int IntKind.i64 f3] 54)).alloc (by simp <;> omega) (Obj.cells #[Value.int IntKind.i64 (min d3 f3), Value.int IntKind.i64 (max d3 f3)] 128)).cell (p := ⟨wi.heap.size, 2, none⟩) (by show wi.heap.size < _; omega)).trans x2); have k3 := (grown_cellF g5 (b := wj.heap.size) (o := 0) (by simp <;> omega) (fun c hc => by have h1 := (HO2.out.lt c hc).2; have h2 := HXN.out c hc; omega)).trans ((show ((wj.alloc (Obj.cells #[Value.int IntKind.i64 f1, Value.int IntKind.i64 f2, Value.int IntKind.i64 f3] 54)).alloc (Obj.cells #[Value.int IntKind.i64 (min d3 f3), Value.int IntKind.i64 (max d3 f3)] 128)).cell? _ = some (.int .i64 f1) by simp [go_sem])); have k4 := (grown_cellF g5 (b := wj.heap.size) (o := 1) (by simp <;> omega) (fun c hc => by have h1 := (HO2.out.lt c hc).2; have h2 := HXN.out c hc; omega)).trans ((show ((wj.alloc (Obj.cells #[Value.int IntKind.i64 f1, Value.int IntKind.i64 f2, Value.int IntKind.i64 f3] 54)).alloc (Obj.cells #[Value.int IntKind.i64 (min d3 f3), Value.int IntKind.i64 (max d3 f3)] 128)).cell? _ = some (.int .i64 f2) by simp [go_sem])); have k5 := (grown_cellF g5 (b := wj.heap.size) (o := 2) (by simp <;> omega) (fun c hc => by have h1 := (HO2.out.lt c hc).2; have h2 := HXN.out c hc; omega)).trans ((show ((wj.alloc (Obj.cells #[Value.int IntKind.i64 f1, Value.int IntKind.i64 f2, Value.int IntKind.i64 f3] 54)).alloc (Obj.cells #[Value.int IntKind.i64 (min d3 f3), Value.int IntKind.i64 (max d3 f3)] 128)).cell? _ = some (.int .i64 f3) by simp [go_sem])); have O5 := Lib.hid o5; have B5 : Hid (Below (w.heap.size + 1) W w5) := Lib.hid (((HB2.out.alloc (by omega) (Obj.cells #[Value.int IntKind.i64 f1, Value.int IntKind.i64 f2, Value.int IntKind.i64 f3] 54)).alloc (by simp <;> omega) (Obj.cells #[Value.int IntKind.i64 (min d3 f3), Value.int IntKind.i64 (max d3 f3)] 128)).grown g5 (by simp <;> omega) (fun k hk => (HO2.out.lt k hk).1)); have P5 := Lib.hid p5; have G5 := Lib.hid g5; have hz5 := B5.out.size; have hq5 : wj.heap.size + 2 ≤ w5.heap.size := (by have := G5.out.size; simp at this; omega); clear o5 g5 p5)
        go_roundw
        case rel => exact ⟨q + 1, by omega, by go_num, by rw [HE.out]; exact O5.out, B5.out, k0, k1, k2, own_ne HXN.out P5.out (by simp <;> omega), by omega⟩
        case measure => simp [intOf]; omega
       ·have HE : Hid (foUp es i ++ foAt es i (i + 1 + (q + 1)) = ((foUp es i ++ FA) ++ [(min d3 f3, max d3 f3)]) ++ [(min d1 f1, max d1 f1)]) := Lib.hid (by have h1 : d2 = f2 := (by simpa using e1); have h2 : d1 = f1 := (by simpa using e2); have h3 : d3 = f3 := (by simpa using e3); rw [show i + 1 + (q + 1) = i + 1 + q + 1 by omega, HST.out]; simp [fo2, h1, h2, h3])
        go_wp2_with (first | (at_builtin; refine push_fold rfl (.tmp 37) (.tmp 49) rfl (w.heap.size + 1) _ _ ((HO2.out.alloc _).alloc _) rfl _ (min d3 f3, max d3 f3) rfl (fo_litN _ _ (by simp) _ _ _) (by omega) (by simp <;> omega) ?_; intro v5 w5 o5 g5 p5; have k0 := (grown_cellF g5 (b := wi.heap.size) (o := 0) (by simp <;> omega) (fun c hc => by have h1 := (HO2.out.lt c hc).2; have h2 := HXN.out c hc; omega)).trans (((((Below.refl wj.heap.size wj).alloc (Nat.le_refl _) (Obj.cells #[Value.int IntKind.i64 f1, Value.int IntKind.i64 f2, Value.int IntKind.i64 f3] 54)).alloc (by simp <;> omega) (Obj.cells #[Value.int IntKind.i64 (min d3 f3), Value.int IntKind.i64 (max d3 f3)] 128)).cell (p := ⟨wi.heap.size, 0, none⟩) (by show wi.heap.size < _; omega)).trans x0); have k1 := (grown_cellF g5 (b := wi.heap.size) (o := 1) (by simp <;> omega) (fun c hc => by have h1 := (HO2.out.lt c hc).2; have h2 := HXN.out c hc; omega)).trans (((((Below.refl wj.heap.size wj).alloc (Nat.le_refl _) (Obj.cells #[Value.int IntKind.i64 f1, Value.int IntKind.i64 f2, Value.int IntKind.i64 f3] 54)).alloc (by simp <;> omega) (Obj.cells #[Value.int IntKind.i64 (min d3 f3), Value.int IntKind.i64 (max d3 f3)] 128)).cell (p := ⟨wi.heap.size, 1, none⟩) (by show wi.heap.size < _; omega)).trans x1); have k2 := (grown_cellF g5 (b := wi.heap.size) (o := 2) (by simp <;> omega) (fun c hc => by have h1 := (HO2.out.lt c hc).2; have h2 := HXN.out c hc; omega)).trans (((((Below.refl wj.heap.size wj).alloc (Nat.le_refl _) (Obj.cells #[Value.int IntKind.i64 f1, Value.int IntKind.i64 f2, Value.int IntKind.i64 f3] 54)).alloc (by simp <;> omega) (Obj.cells #[Value.int IntKind.i64 (min d3 f3), Value.int IntKind.i64 (max d3 f3)] 128)).cell (p := ⟨wi.heap.size, 2, none⟩) (by show wi.heap.size < _; omega)).trans x2); have k3 := (grown_cellF g5 (b := wj.heap.size) (o := 0) (by simp <;> omega) (fun c hc => by have h1 := (HO2.out.lt c hc).2; have h2 := HXN.out c hc; omega)).trans ((show ((wj.alloc (Obj.cells #[Value.int IntKind.i64 f1, Value.int IntKind.i64 f2, Value.int IntKind.i64 f3] 54)).alloc (Obj.cells #[Value.int IntKind.i64 (min d3 f3), Value.int IntKind.i64 (max d3 f3)] 128)).cell? _ = some (.int .i64 f1) by simp [go_sem])); have k4 := (grown_cellF g5 (b := wj.heap.size) (o := 1) (by simp <;> omega) (fun c hc => by have h1 := (HO2.out.lt c hc).2; have h2 := HXN.out c hc; omega)).trans ((show ((wj.alloc (Obj.cells #[Value.int IntKind.i64 f1, Value.int IntKind.i64 f2, Value.int IntKind.i64 f3] 54)).alloc (Obj.cells #[Value.int IntKind.i64 (min d3 f3), Value.int IntKind.i64 (max d3 f3)] 128)).cell? _ = some (.int .i64 f2) by simp [go_sem])); have k5 := (grown_cellF g5 (b := wj.heap.size) (o := 2) (by simp <;> omega) (fun c hc => by have h1 := (HO2.out.lt c hc).2; have h2 := HXN.out c hc; omega)).trans ((show ((wj.alloc (Obj.cells #[Value.int IntKind.i64 f1, Value.int IntKind.i64 f2, Value.int IntKind.i64 f3] 54)).alloc (Obj.cells #[Value.int IntKind.i64 (min d3 f3), Value.int IntKind.i64 (max d3 f3)] 128)).cell? _ = some (.int .i64 f3) by simp [go_sem])); have O5 := Lib.hid o5; have B5 : Hid (Below (w.heap.size + 1) W w5) := Lib.hid (((HB2.out.alloc (by omega) (Obj.cells #[Value.int IntKind.i64 f1, Value.int IntKind.i64 f2, Value.int IntKind.i64 f3] 54)).alloc (by simp <;> omega) (Obj.cells #[Value.int IntKind.i64 (min d3 f3), Value.int IntKind.i64 (max d3 f3)] 128)).grown g5 (by simp <;> omega) (fun k hk => (HO2.out.lt k hk).1)); have P5 := Lib.hid p5; have G5 := Lib.hid g5; have hz5 := B5.out.size; have hq5 : wj.heap.size + 2 ≤ w5.heap.size := (by have := G5.out.size; simp at this; omega); clear o5 g5 p5) | (at_builtin; have HXN5 : Hid (∀ c, v5.ownBlock = some c → c ≠ wi.heap.size) := (Lib.hid (own_ne HXN.out P5.out (by simp <;> omega))); refine push_fold rfl (.tmp 56) (.tmp 68) rfl (w.heap.size + 1) _ _ (O5.out.alloc _) rfl _ (min d1 f1, max d1 f1) rfl (fo_litN _ _ (by simp) _ _ _) (by rw [List.length_append]; simp only [List.length_singleton]; omega) (by simp <;> omega) ?_; intro v6 w6 o6 g6 p6; have k0' := (grown_cellF g6 (b := wi.heap.size) (o := 0) (by simp <;> omega) (fun c hc => HXN5.out c hc)).trans ((((Below.refl w5.heap.size w5).alloc (Nat.le_refl _) (Obj.cells #[Value.int IntKind.i64 (min d1 f1), Value.int IntKind.i64 (max d1 f1)] 128)).cell (p := ⟨wi.heap.size, 0, none⟩) (by show wi.heap.size < _; omega)).trans k0); have k1' := (grown_cellF g6 (b := wi.heap.size) (o := 1) (by simp <;> omega) (fun c hc => HXN5.out c hc)).trans ((((Below.refl w5.heap.size w5).alloc (Nat.le_refl _) (Obj.cells #[Value.int IntKind.i64 (min d1 f1), Value.int IntKind.i64 (max d1 f1)] 128)).cell (p := ⟨wi.heap.size, 1, none⟩) (by show wi.heap.size < _; omega)).trans k1); have k2' := (grown_cellF g6 (b := wi.heap.size) (o := 2) (by simp <;> omega) (fun c hc => HXN5.out c hc)).trans ((((Below.refl w5.heap.size w5).alloc (Nat.le_refl _) (Obj.cells #[Value.int IntKind.i64 (min d1 f1), Value.int IntKind.i64 (max d1 f1)] 128)).cell (p := ⟨wi.heap.size, 2, none⟩) (by show wi.heap.size < _; omega)).trans k2); have O6 := Lib.hid o6; have B6 : Hid (Below (w.heap.size + 1) W w6) := Lib.hid ((B5.out.alloc (by omega) (Obj.cells #[Value.int IntKind.i64 (min d1 f1), Value.int IntKind.i64 (max d1 f1)] 128)).grown g6 (by simp <;> omega) (fun k hk => (O5.out.lt k hk).1)); have P6 := Lib.hid p6; have hq6 : w5.heap.size + 1 ≤ w6.heap.size := (by have := g6.size; simp at this; omega); clear o6 g6 p6))
        go_roundw
        case rel => exact ⟨q + 1, by omega, by go_num, by rw [HE.out]; exact O6.out, B6.out, k0', k1', k2', own_ne HXN5.out P6.out (by simp <;> omega), by omega⟩
        case measure => simp [intOf]; omega
     ·obtain rfl : q = rem := by omega
      have HE : Hid (foUp es (i + 1) = foUp es i ++ foAt es i (i + 1 + q)) := Lib.hid (by rw [HFU.out, show i + 1 + q = es.length by omega])
      clear x0 x1 x2
      go_wp2
      go_roundw
      case rel => exact ⟨i + 1, by omega, by go_num, by rw [HE.out]; exact HO2.out, HB2.out⟩
      case measure => simp [intOf]; omega
  ·obtain rfl : i = es.length := by omega
   obtain ⟨Ao, co, hov, _⟩ := HO.out.form
   subst hov
   have HOF := Lib.hid (HO.out.mono (show w.heap.size ≤ w.heap.size + 1 by omega))
   have HBF : Hid (Below w.heap.size w wi) := Lib.hid (BX.out.trans (HB.out.mono (by omega)))
   go_wp2
   go_ret
   exact ⟨_, rfl, HOF.out, HBF.out⟩
end Go.Proofs.YtfadnkjlilhneaaGreat
