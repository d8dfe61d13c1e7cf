/- PowerIn of the reference and of the program. Words read in a folded graph: the reference's WalkWord, the program's read; PowerIn of both. Plain: words read in a folded graph; the least power of a word that a subgroup holds. The program's RankOf and LeastRank. -/
import Derived.Test.YtbflljcafbneaaaGreatCoreI
import Derived.Test.YtbflljcafbneaaaGreatCycP
import Derived.Test.YtbflljcafbneaaaGreatRankS
import Derived.Test.YtbflljcafbneaaaGreatCore
import Derived.Test.YtbflljcafbneaaaGreatWalk
namespace Go.Proofs.YtbflljcafbneaaaGreat
set_option maxRecDepth 20000
set_option linter.unusedVariables false
set_option linter.unusedSimpArgs false
open Go.RowKit

theorem stripGo_lt {c : List Int} (h : redP c) : ∀ (n f : Nat), 2 * f < c.length → 2 * stripGo c n f < c.length := by
  intro n
  induction n with
  | zero => intro f hf; exact hf
  | succ n ih =>
    intro f hf
    unfold stripGo
    split
    · rename_i hc
      refine ih _ ?_
      rcases Nat.lt_or_ge (2 * (f + 1)) c.length with h1 | h1
      · exact h1
      · have e : c.length - 1 - f = f + 1 := by omega
        rw [e, h f (by omega)] at hc
        exact absurd hc.2 (by simp)
    · exact hf
theorem coreF_ne {x : List Int} (h : redP x) (h0 : x ≠ []) : 0 < (coreF x).length := by
  have h1 : 0 < x.length := List.length_pos_iff.2 h0
  have e : redL [] x = x := redL_id (acc := []) h
  unfold coreF
  rw [e, coreC_len]
  have := stripGo_lt h x.length 0 (by omega)
  unfold stripN
  omega
theorem coreF_nil : coreF [] = [] := by
  have := coreF_len []
  exact List.eq_nil_of_length_eq_zero (by simpa using this)
def readF (es : List EdD) : Int → List Int → Int × Nat
  | v, [] => (v, 0)
  | v, x :: w => if nextV es v x < 0 then (v, 0) else ((readF es (nextV es v x) w).1, (readF es (nextV es v x) w).2 + 1)
theorem readF_step (es : List EdD) (v : Int) (w : List Int) (k : Nat) (h : k < w.length) : readF es v (w.drop k) = if nextV es v w[k] < 0 then (v, 0) else ((readF es (nextV es v w[k]) (w.drop (k + 1))).1, (readF es (nextV es v w[k]) (w.drop (k + 1))).2 + 1) := by
  rw [List.drop_eq_getElem_cons h]
  rfl
theorem readF_le (es : List EdD) : ∀ (w : List Int) (v : Int), (readF es v w).2 ≤ w.length
  | [], v => Nat.le_refl _
  | x :: w, v => by
    unfold readF
    split
    · exact Nat.zero_le _
    · simp only [List.length_cons]
      have := readF_le es w (nextV es v x)
      omega
theorem walk_read (es : List EdD) : ∀ (w : List Int) (v : Int), 0 ≤ v → (walkF es v w < 0 ∧ (readF es v w).2 < w.length) ∨ (0 ≤ walkF es v w ∧ (readF es v w).2 = w.length ∧ (readF es v w).1 = walkF es v w)
  | [], v, hv => .inr ⟨hv, rfl, rfl⟩
  | x :: w, v, hv => by
    unfold walkF readF
    by_cases h : nextV es v x < 0
    · rw [if_pos h, if_pos h]
      exact .inl ⟨by decide, by simp⟩
    · rw [if_neg h, if_neg h]
      rcases walk_read es w (nextV es v x) (by omega) with ⟨h1, h2⟩ | ⟨h1, h2, h3⟩
      · exact .inl ⟨h1, by simp only [List.length_cons]; omega⟩
      · exact .inr ⟨h1, by simp only [List.length_cons]; omega, h3⟩
def powGo (es : List EdD) (c : List Int) (v : Int) : Nat → Int → Int → Int
  | 0, _, _ => 0
  | f + 1, u, k => if walkF es u c < 0 then 0 else if walkF es u c = v then k else powGo es c v f (walkF es u c) (k + 1)
def powF (g : GrD) (w : List Int) : Int :=
  if coreB g && wordB g.1 (redL [] w) then (if redL [] w = [] then 1 else if walkF g.2.2 0 (prefF (redL [] w)) < 0 then 0 else powGo g.2.2 (coreF (redL [] w)) (walkF g.2.2 0 (prefF (redL [] w))) g.2.1.toNat (walkF g.2.2 0 (prefF (redL [] w))) 1) else 0
theorem coreB_foldB {g : GrD} (h : coreB g = true) : foldB g = true := by
  unfold coreB at h
  simp only [Bool.and_eq_true] at h
  exact h.1.1
set_option maxHeartbeats 1000000 in
theorem read_any (v vw : Value) (g : GrD) (u : Int) (ws : List Int) (w : World) (h : ArgG w v g) (hw : RdI w vw ws) (hf : foldB g = true) (hu : 0 ≤ u ∧ u < g.2.1) :
    Calls Tryz.prog 50 #[v, .int .i64 u, vw] w fun e w' => e = .returned (.tuple #[.int .i64 (readF g.2.2 u ws).1, .int .i64 ((readF g.2.2 u ws).2 : Nat)]) ∧ Below w.heap.size w w' := by
  have HG := Lib.hid h
  have HW := Lib.hid hw
  obtain ⟨hg, hfol⟩ := foldB_parts hf
  have ONE := Lib.hid (steps_one hfol)
  have LET := Lib.hid (let_of_gr hg)
  have NV : Hid (∀ v x, nextV g.2.2 v x = -1 ∨ (0 ≤ nextV g.2.2 v x ∧ nextV g.2.2 v x < g.2.1)) := Lib.hid fun v x => nextV_range hg v x
  obtain ⟨s, rfl, hi1, hi2, ha⟩ := h
  obtain ⟨A, cap, rfl⟩ := ha.form
  obtain ⟨Aw, capw, rfl, hcw, hmw, _⟩ := hw.arg
  unfold maxLen at hmw
  clear hf hg hfol ha hw
  have HR : Hid (readF g.2.2 u ws = ((readF g.2.2 u (ws.drop 0)).1, 0 + (readF g.2.2 u (ws.drop 0)).2)) := Lib.hid (by rw [List.drop_zero, Nat.zero_add])
  generalize readF g.2.2 u ws = R at *
  go_enter Tryz.func50, Tryz.ntmps50
  go_wp2_with fail
  have bx : Below w.heap.size w (w.alloc (Obj.cells #[Value.int IntKind.i64 g.1, Value.int IntKind.i64 g.2.1, .slice A g.2.2.length cap] 30)) := (by repeat (first | exact Below.refl _ _ | (refine Below.setCell ?_ (by first | omega | (simp <;> omega)) _) | (refine bel_drewN ?_ _) | (refine Below.drew ?_) | (refine Below.alloc ?_ (by first | omega | (simp <;> omega)) _)))
  have l0 : (w.alloc (Obj.cells #[Value.int IntKind.i64 g.1, Value.int IntKind.i64 g.2.1, .slice A g.2.2.length cap] 30)).cell? ⟨w.heap.size, 0, none⟩ = some (.int .i64 g.1) := by simp [go_sem]
  have l1 : (w.alloc (Obj.cells #[Value.int IntKind.i64 g.1, Value.int IntKind.i64 g.2.1, .slice A g.2.2.length cap] 30)).cell? ⟨w.heap.size, 1, none⟩ = some (.int .i64 g.2.1) := by simp [go_sem]
  have l2 : (w.alloc (Obj.cells #[Value.int IntKind.i64 g.1, Value.int IntKind.i64 g.2.1, .slice A g.2.2.length cap] 30)).cell? ⟨w.heap.size, 2, none⟩ = some (.slice A g.2.2.length cap) := by simp [go_sem]
  have sA : w.heap.size < (w.alloc (Obj.cells #[Value.int IntKind.i64 g.1, Value.int IntKind.i64 g.2.1, .slice A g.2.2.length cap] 30)).heap.size := by simp
  generalize w.alloc (Obj.cells #[Value.int IntKind.i64 g.1, Value.int IntKind.i64 g.2.1, .slice A g.2.2.length cap] 30) = W at bx l0 l1 l2 sA ⊢
  have BX := Lib.hid bx
  have HA : Hid (∀ w', Below W.heap.size W w' → ArgG w' (.agg #[.int .i64 g.1, .int .i64 g.2.1, .slice A g.2.2.length cap]) g) := Lib.hid fun w' hb => HG.out.below (BX.out.trans (hb.mono (by omega)))
  have L0 := Lib.hid l0
  have L1 := Lib.hid l1
  have L2 := Lib.hid l2
  clear bx l0 l1 l2
  go_loopw [1, 13] (fun a i wr => ∃ (k : Nat) (u' : Int), k ≤ ws.length ∧ i = .int .i64 k ∧ a = .int .i64 u' ∧ (0 ≤ u' ∧ u' < g.2.1) ∧ R = ((readF g.2.2 u' (ws.drop k)).1, k + (readF g.2.2 u' (ws.drop k)).2) ∧ Below W.heap.size W wr) (fun _ i _ => ws.length - (intOf i).toNat)
  case atStart => exact ⟨0, u, Nat.zero_le _, rfl, rfl, hu, HR.out, Below.refl _ _⟩
  case round =>
    obtain ⟨k, u', hk, rfl, rfl, hu', hR, hbel⟩ := hrel
    have HB := Lib.hid hbel
    have HRk := Lib.hid hR
    have hs := hbel.size
    have q0 := (hbel.cell (p := ⟨w.heap.size, 0, none⟩) sA).trans L0.out
    have q1 := (hbel.cell (p := ⟨w.heap.size, 1, none⟩) sA).trans L1.out
    have q2 := (hbel.cell (p := ⟨w.heap.size, 2, none⟩) sA).trans L2.out
    by_cases hlt : k < ws.length
    · have HRW := Lib.hid (HW.out.below (BX.out.trans (hbel.mono (by omega))))
      obtain ⟨bw, offw, rfl, hbw, hcw2⟩ := HRW.out.at (by omega)
      have c0 := hcw2 k hlt
      have ST := Lib.hid (readF_step g.2.2 u' ws k hlt)
      generalize ws[k] = x at c0 ST
      have NX := Lib.hid (NV.out u' x)
      have HNX := Lib.hid (implNextVertex_any _ g u' x wr (HA.out _ hbel) (ONE.out u' x) LET.out)
      clear hbel hR hcw2
      go_wp2_with fail
      refine HNX.out.mono ?_
      rintro e wq ⟨rfl, bq⟩
      have HQ := Lib.hid (HB.out.trans (bq.mono (by omega)))
      clear bq HNX q0 q1 q2 c0
      generalize nextV g.2.2 u' x = y at *
      rcases NX.out with hy | hy
      · subst hy
        have F : Hid (R = (u', k)) := Lib.hid (by rw [HRk.out, ST.out]; rfl)
        go_wp2
        exact bodyPost_ret (v := .tuple #[.int .i64 u', .int .i64 k]) (by simp [results, Tryz.results50]) rfl ⟨by rw [F.out], BX.out.trans (HQ.out.mono (by omega))⟩
      · have hy0 : ¬ y < 0 := by omega
        have F : Hid (R = ((readF g.2.2 y (ws.drop (k + 1))).1, (k + 1) + (readF g.2.2 y (ws.drop (k + 1))).2)) := Lib.hid (by
          rw [HRk.out, ST.out, if_neg hy0]
          simp only
          rw [Nat.add_assoc, Nat.add_comm 1])
        go_wp2
        go_roundw
        case rel => exact ⟨k + 1, y, by omega, by go_num, rfl, hy, F.out, HQ.out⟩
        case measure => simp [intOf]; omega
    · obtain rfl : k = ws.length := by omega
      have F : Hid (R = (u', ws.length)) := Lib.hid (by rw [HRk.out, List.drop_length]; rfl)
      clear hbel hR
      go_wp2
      exact bodyPost_ret (v := .tuple #[.int .i64 u', .int .i64 ws.length]) (by simp [results, Tryz.results50]) rfl ⟨by rw [F.out], BX.out.trans (HB.out.mono (by omega))⟩
set_option maxHeartbeats 1000000 in
theorem specPowerIn_any (v vw : Value) (g : GrD) (ws : List Int) (w : World) (h : ArgG w v g) (hw : RdI w vw ws) (hl : ws.length ≤ 536870912) :
    Calls Tryz.prog 18 #[v, vw] w fun e w' => e = .returned (.int .i64 (powF g ws)) ∧ Below w.heap.size w w' := by
  have HG := Lib.hid h
  have HW := Lib.hid hw
  have HP : Hid (powF g ws = if coreB g && wordB g.1 (redL [] ws) then (if redL [] ws = [] then 1 else if walkF g.2.2 0 (prefF (redL [] ws)) < 0 then 0 else powGo g.2.2 (coreF (redL [] ws)) (walkF g.2.2 0 (prefF (redL [] ws))) g.2.1.toNat (walkF g.2.2 0 (prefF (redL [] ws))) 1) else 0) := Lib.hid rfl
  generalize powF g ws = P at *
  have hxl : (redL [] ws).length ≤ 536870912 := by have := redL_len [] ws; simp only [List.length_nil] at this; omega
  have HRP : Hid (redP (redL [] ws)) := Lib.hid (redL_red redP_nil)
  have HCL : Hid ((coreF (redL [] ws)).length ≤ 536870912 ∧ (prefF (redL [] ws)).length ≤ 536870912) := Lib.hid (by
    have h1 := coreF_len (redL [] ws)
    have h2 : (prefF (redL [] ws)).length ≤ (redL [] (redL [] ws)).length := by unfold prefF; rw [List.length_take]; omega
    have h3 := redL_len [] (redL [] ws)
    simp only [List.length_nil] at h3
    omega)
  obtain ⟨s, rfl, hi1, hi2, ha⟩ := h
  obtain ⟨A, cap, rfl⟩ := ha.form
  obtain ⟨Aw, capw, rfl, hcw, hmw, _⟩ := hw.arg
  clear ha hw
  go_enter Tryz.func18, Tryz.ntmps18
  go_wp2_with fail
  have bx : Below w.heap.size w (w.alloc (Obj.cells #[Value.int IntKind.i64 g.1, Value.int IntKind.i64 g.2.1, .slice A g.2.2.length cap] 30)) := (by repeat (first | exact Below.refl _ _ | (refine Below.setCell ?_ (by first | omega | (simp <;> omega)) _) | (refine bel_drewN ?_ _) | (refine Below.drew ?_) | (refine Below.alloc ?_ (by first | omega | (simp <;> omega)) _)))
  have l0 : (w.alloc (Obj.cells #[Value.int IntKind.i64 g.1, Value.int IntKind.i64 g.2.1, .slice A g.2.2.length cap] 30)).cell? ⟨w.heap.size, 0, none⟩ = some (.int .i64 g.1) := by simp [go_sem]
  have l1 : (w.alloc (Obj.cells #[Value.int IntKind.i64 g.1, Value.int IntKind.i64 g.2.1, .slice A g.2.2.length cap] 30)).cell? ⟨w.heap.size, 1, none⟩ = some (.int .i64 g.2.1) := by simp [go_sem]
  have l2 : (w.alloc (Obj.cells #[Value.int IntKind.i64 g.1, Value.int IntKind.i64 g.2.1, .slice A g.2.2.length cap] 30)).cell? ⟨w.heap.size, 2, none⟩ = some (.slice A g.2.2.length cap) := by simp [go_sem]
  have sA : w.heap.size < (w.alloc (Obj.cells #[Value.int IntKind.i64 g.1, Value.int IntKind.i64 g.2.1, .slice A g.2.2.length cap] 30)).heap.size := by simp
  generalize w.alloc (Obj.cells #[Value.int IntKind.i64 g.1, Value.int IntKind.i64 g.2.1, .slice A g.2.2.length cap] 30) = W at bx l0 l1 l2 sA ⊢
  have BX := Lib.hid bx
  have HA : Hid (∀ w', Below W.heap.size W w' → ArgG w' (.agg #[.int .i64 g.1, .int .i64 g.2.1, .slice A g.2.2.length cap]) g) := Lib.hid fun w' hb => HG.out.below (BX.out.trans (hb.mono (by omega)))
  have L0 := Lib.hid l0
  have L1 := Lib.hid l1
  have L2 := Lib.hid l2
  clear bx l0 l1 l2
  refine (specReduceLetters_any _ ws W (HW.out.below BX.out) (by omega)).mono ?_
  rintro e w1 ⟨rx, rfl, ox, b1⟩
  generalize redL [] ws = x at *
  have s1 := b1.size
  obtain ⟨Ax, capx, rfl, hcx, hmx, _⟩ := OwI.form ox
  have OX := Lib.hid ox
  have B1 := Lib.hid b1
  have q0 := (b1.cell (p := ⟨w.heap.size, 0, none⟩) sA).trans L0.out
  have q1 := (b1.cell (p := ⟨w.heap.size, 1, none⟩) sA).trans L1.out
  have q2 := (b1.cell (p := ⟨w.heap.size, 2, none⟩) sA).trans L2.out
  clear b1 ox
  go_wp2_with fail
  refine (specIsSubgroup_any _ g w1 (HA.out _ B1.out)).mono ?_
  rintro e w2 ⟨rfl, b2⟩
  have B2 := Lib.hid (B1.out.trans (b2.mono s1))
  have OX2 := Lib.hid (OX.out.below b2)
  have s2 := B2.out.size
  clear b2 q0 q1 q2
  have q0 := (B2.out.cell (p := ⟨w.heap.size, 0, none⟩) sA).trans L0.out
  have q1 := (B2.out.cell (p := ⟨w.heap.size, 1, none⟩) sA).trans L1.out
  have q2 := (B2.out.cell (p := ⟨w.heap.size, 2, none⟩) sA).trans L2.out
  rcases e1 : coreB g with _ | _
  · have HR : Hid (P = 0) := Lib.hid (by rw [HP.out, e1]; rfl)
    clear e1
    go_wp2
    exact bodyPost_ret (v := .int .i64 0) (by simp [results, Tryz.results18]) rfl ⟨by rw [HR.out], BX.out.trans (B2.out.mono (Nat.le_of_lt sA))⟩
  have HC := Lib.hid e1
  have hfold := coreB_foldB e1
  have HF := Lib.hid hfold
  obtain ⟨hr13, hsz40, hl120, _⟩ := grB_parts (foldB_parts hfold).1
  obtain ⟨N, hN⟩ : ∃ N : Nat, g.2.1 = (N : Int) := ⟨g.2.1.toNat, by omega⟩
  have HWR : Hid (∀ (u : Int) (c : List Int), 0 ≤ u ∧ u < N → walkF g.2.2 u c = -1 ∨ (0 ≤ walkF g.2.2 u c ∧ walkF g.2.2 u c < N)) := Lib.hid fun u c hu => by
    have := walkF_range (foldB_parts hfold).1 c u (by rw [hN]; exact hu)
    rwa [hN] at this
  have hN1 : 1 ≤ N := by omega
  have hN2 : N ≤ 40 := by omega
  have HN := Lib.hid hN
  have HNT : Hid (g.2.1.toNat = N) := Lib.hid (by omega)
  clear hfold e1 hN
  go_wp2_with fail
  refine (specIsWord_any _ _ x _ OX2.out.rd.arg (by omega)).mono ?_
  rintro e w3 ⟨rfl, nn, rfl⟩
  have B3 := Lib.hid (bel_drewN B2.out nn)
  have OX3 := Lib.hid (OX2.out.drewN nn)
  clear OX2
  generalize w2.drewN nn = w3 at *
  have s3 := B3.out.size
  clear q0 q1 q2
  have q0 := (B3.out.cell (p := ⟨w.heap.size, 0, none⟩) sA).trans L0.out
  have q1 := (B3.out.cell (p := ⟨w.heap.size, 1, none⟩) sA).trans L1.out
  have q2 := (B3.out.cell (p := ⟨w.heap.size, 2, none⟩) sA).trans L2.out
  rcases e2 : wordB g.1 x with _ | _
  · have HR : Hid (P = 0) := Lib.hid (by rw [HP.out, HC.out, e2]; rfl)
    clear e2
    go_wp2
    exact bodyPost_ret (v := .int .i64 0) (by simp [results, Tryz.results18]) rfl ⟨by rw [HR.out], BX.out.trans (B3.out.mono (Nat.le_of_lt sA))⟩
  have HP2 : Hid (P = if x = [] then 1 else if walkF g.2.2 0 (prefF x) < 0 then 0 else powGo g.2.2 (coreF x) (walkF g.2.2 0 (prefF x)) g.2.1.toNat (walkF g.2.2 0 (prefF x)) 1) := Lib.hid (by rw [HP.out, HC.out, e2]; rfl)
  clear e2
  go_wp2_with fail
  refine (specCyclicCore_any _ x _ OX3.out.rd hxl).mono ?_
  rintro e w4 ⟨rc, rp, rfl, oc, op, b4⟩
  have B4 := Lib.hid (B3.out.trans (b4.mono s3))
  have s4 := B4.out.size
  obtain ⟨Ac, capc, rfl, hcc, hmc, _⟩ := OwI.form oc
  obtain ⟨Ap, capp, rfl, _⟩ := op.arg
  have OC := Lib.hid oc.rd
  have OP := Lib.hid op
  clear oc op b4 q0 q1 q2
  have q0 := (B4.out.cell (p := ⟨w.heap.size, 0, none⟩) sA).trans L0.out
  have q1 := (B4.out.cell (p := ⟨w.heap.size, 1, none⟩) sA).trans L1.out
  have q2 := (B4.out.cell (p := ⟨w.heap.size, 2, none⟩) sA).trans L2.out
  go_wp2_with fail
  refine (walkWord_any _ _ g 0 (prefF x) _ (HA.out _ B4.out) OP.out HF.out ⟨Int.le_refl _, by rw [HN.out]; omega⟩).mono ?_
  rintro e w5 ⟨rfl, b5⟩
  have B5 := Lib.hid (B4.out.trans (b5.mono s4))
  have s5 := B5.out.size
  have OC5 := Lib.hid (OC.out.below b5)
  clear b5 q0 q1 q2
  have HV := Lib.hid (HWR.out 0 (prefF x) ⟨Int.le_refl _, by omega⟩)
  have q1 := (B5.out.cell (p := ⟨w.heap.size, 1, none⟩) sA).trans L1.out
  rw [HN.out] at q1
  generalize walkF g.2.2 0 (prefF x) = v0 at *
  by_cases hx0 : x = []
  · have HR : Hid (P = 1) := Lib.hid (by rw [HP2.out, if_pos hx0])
    have hc0 : (coreF x).length = 0 := by rw [hx0, coreF_nil]; rfl
    rw [hc0] at OC5 ⊢
    go_wp2
    exact bodyPost_ret (v := .int .i64 1) (by simp [results, Tryz.results18]) rfl ⟨by rw [HR.out], BX.out.trans (B5.out.mono (Nat.le_of_lt sA))⟩
  have hc0 := coreF_ne HRP.out hx0
  have HP3 : Hid (P = if v0 < 0 then 0 else powGo g.2.2 (coreF x) v0 N v0 1) := Lib.hid (by rw [HP2.out, if_neg hx0, HNT.out])
  generalize hcc' : coreF x = c at *
  clear hcc' hx0
  have g0 : ((c.length : Int) == 0) = false := by rw [beq_eq_false_iff_ne]; omega
  go_wp2
  go_loopw [8, 9, 11] (fun a b i wr => ∃ (u : Int) (is : Bool) (k : Nat), a = .int .i64 u ∧ b = .bool is ∧ i = .int .i64 k ∧ 1 ≤ k ∧ k ≤ N + 1 ∧ (is = true → (0 ≤ u ∧ u < N) ∧ P = powGo g.2.2 c v0 (N + 1 - k) u k) ∧ (is = false → P = 0) ∧ Below W.heap.size W wr ∧ RdI wr (.slice Ac c.length capc) c) (fun _ _ i _ => N + 1 - (intOf i).toNat)
  case atStart => exact ⟨v0, decide (0 ≤ v0), 1, rfl, rfl, rfl, Nat.le_refl _, by omega, (fun h => by
    have h1 : 0 ≤ v0 := of_decide_eq_true h
    have h2 := HV.out
    refine ⟨⟨h1, by omega⟩, ?_⟩
    rw [HP3.out, if_neg (by omega)]
    rfl), (fun h => by
    have h1 : ¬ 0 ≤ v0 := of_decide_eq_false h
    rw [HP3.out, if_pos (by omega)]), B5.out, OC5.out⟩
  case round =>
    obtain ⟨u, is, k, rfl, rfl, rfl, hk1, hk, ht, hf, hbel, hrd⟩ := hrel
    have HB := Lib.hid hbel
    have HT := Lib.hid ht
    have HFA := Lib.hid hf
    have HRD := Lib.hid hrd
    have hs := hbel.size
    have q0 := (hbel.cell (p := ⟨w.heap.size, 0, none⟩) sA).trans L0.out
    have q2 := (hbel.cell (p := ⟨w.heap.size, 2, none⟩) sA).trans L2.out
    have q1' := (hbel.cell (p := ⟨w.heap.size, 1, none⟩) sA).trans L1.out
    rw [HN.out] at q1'
    clear ht hf hbel hrd
    by_cases hlt : k ≤ N
    · have hki : (k : Int) ≤ (N : Int) := by omega
      cases is with
      | false =>
        have F := Lib.hid (HFA.out rfl)
        go_wp2
        exact bodyPost_ret (v := .int .i64 0) (by simp [results, Tryz.results18]) rfl ⟨by rw [F.out], BX.out.trans (HB.out.mono (by omega))⟩
      | true =>
        obtain ⟨hu, hPk⟩ := HT.out rfl
        have HPK := Lib.hid hPk
        have ST : Hid (powGo g.2.2 c v0 (N + 1 - k) u k = if walkF g.2.2 u c < 0 then 0 else if walkF g.2.2 u c = v0 then (k : Int) else powGo g.2.2 c v0 (N + 1 - (k + 1)) (walkF g.2.2 u c) ((k : Int) + 1)) := Lib.hid (by
          rw [show N + 1 - k = (N + 1 - (k + 1)) + 1 by omega]
          rfl)
        clear hPk
        go_wp2_with fail
        rw [← HN.out]
        refine (walkWord_any _ _ g u c _ (HA.out _ HB.out) HRD.out HF.out ⟨hu.1, by rw [HN.out]; omega⟩).mono ?_
        rintro e w9 ⟨rfl, b9⟩
        have B9 := Lib.hid (HB.out.trans (b9.mono (by omega)))
        have RD9 := Lib.hid (HRD.out.below b9)
        clear b9 q0 q1' q2
        have HY := Lib.hid (HWR.out u c hu)
        generalize walkF g.2.2 u c = y at *
        by_cases hy : 0 ≤ y
        · have hd : decide (0 ≤ y) = true := by simp [hy]
          rw [hd]
          rcases hyv : (y == v0) with _ | _
          · have F : Hid (P = powGo g.2.2 c v0 (N + 1 - (k + 1)) y ((k : Int) + 1)) := Lib.hid (by rw [HPK.out, ST.out, if_neg (by omega), if_neg (by simpa using hyv)])
            go_wp2
            go_roundw
            case rel => exact ⟨y, true, k + 1, rfl, rfl, by go_num, by omega, by omega, (fun _ => ⟨by have := HY.out; omega, by rw [F.out]; rfl⟩), (fun h => by cases h), B9.out, RD9.out⟩
            case measure => simp [intOf]; omega
          · have F : Hid (P = (k : Int)) := Lib.hid (by rw [HPK.out, ST.out, if_neg (by omega), if_pos (by simpa using hyv)])
            go_wp2
            exact bodyPost_ret (v := .int .i64 k) (by simp [results, Tryz.results18]) rfl ⟨by rw [F.out], BX.out.trans (B9.out.mono (by omega))⟩
        · have hd : decide (0 ≤ y) = false := by simp; omega
          rw [hd]
          have F : Hid (P = 0) := Lib.hid (by rw [HPK.out, ST.out, if_pos (by omega)])
          go_wp2
          go_roundw
          case rel => exact ⟨y, false, k + 1, rfl, rfl, by go_num, by omega, by omega, (fun h => by cases h), (fun _ => F.out), B9.out, RD9.out⟩
          case measure => simp [intOf]; omega
    · have hki : ¬ (k : Int) ≤ (N : Int) := by omega
      have F : Hid (P = 0) := Lib.hid (by
        cases is with
        | false => exact HFA.out rfl
        | true =>
          rw [(HT.out rfl).2, show N + 1 - k = 0 by omega]
          rfl)
      go_wp2
      exact bodyPost_ret (v := .int .i64 0) (by simp [results, Tryz.results18]) rfl ⟨by rw [F.out], BX.out.trans (HB.out.mono (by omega))⟩
set_option maxHeartbeats 1000000 in
theorem implPowerIn_any (v vw : Value) (g : GrD) (ws : List Int) (w : World) (h : ArgG w v g) (hw : RdI w vw ws) (hl : ws.length ≤ 536870912) :
    Calls Tryz.prog 23 #[v, vw] w fun e w' => e = .returned (.int .i64 (powF g ws)) ∧ Below w.heap.size w w' := by
  have HG := Lib.hid h
  have HW := Lib.hid hw
  have HP : Hid (powF g ws = if coreB g && wordB g.1 (redL [] ws) then (if redL [] ws = [] then 1 else if walkF g.2.2 0 (prefF (redL [] ws)) < 0 then 0 else powGo g.2.2 (coreF (redL [] ws)) (walkF g.2.2 0 (prefF (redL [] ws))) g.2.1.toNat (walkF g.2.2 0 (prefF (redL [] ws))) 1) else 0) := Lib.hid rfl
  generalize powF g ws = P at *
  have hxl : (redL [] ws).length ≤ 536870912 := by have := redL_len [] ws; simp only [List.length_nil] at this; omega
  have HRP : Hid (redP (redL [] ws)) := Lib.hid (redL_red redP_nil)
  have HCL : Hid ((coreF (redL [] ws)).length ≤ 536870912 ∧ (prefF (redL [] ws)).length ≤ 536870912) := Lib.hid (by
    have h1 := coreF_len (redL [] ws)
    have h2 : (prefF (redL [] ws)).length ≤ (redL [] (redL [] ws)).length := by unfold prefF; rw [List.length_take]; omega
    have h3 := redL_len [] (redL [] ws)
    simp only [List.length_nil] at h3
    omega)
  obtain ⟨s, rfl, hi1, hi2, ha⟩ := h
  obtain ⟨A, cap, rfl⟩ := ha.form
  obtain ⟨Aw, capw, rfl, hcw, hmw, _⟩ := hw.arg
  clear ha hw
  go_enter Tryz.func23, Tryz.ntmps23
  go_wp2_with fail
  have bx : Below w.heap.size w (w.alloc (Obj.cells #[Value.int IntKind.i64 g.1, Value.int IntKind.i64 g.2.1, .slice A g.2.2.length cap] 30)) := (by repeat (first | exact Below.refl _ _ | (refine Below.setCell ?_ (by first | omega | (simp <;> omega)) _) | (refine bel_drewN ?_ _) | (refine Below.drew ?_) | (refine Below.alloc ?_ (by first | omega | (simp <;> omega)) _)))
  have l0 : (w.alloc (Obj.cells #[Value.int IntKind.i64 g.1, Value.int IntKind.i64 g.2.1, .slice A g.2.2.length cap] 30)).cell? ⟨w.heap.size, 0, none⟩ = some (.int .i64 g.1) := by simp [go_sem]
  have l1 : (w.alloc (Obj.cells #[Value.int IntKind.i64 g.1, Value.int IntKind.i64 g.2.1, .slice A g.2.2.length cap] 30)).cell? ⟨w.heap.size, 1, none⟩ = some (.int .i64 g.2.1) := by simp [go_sem]
  have l2 : (w.alloc (Obj.cells #[Value.int IntKind.i64 g.1, Value.int IntKind.i64 g.2.1, .slice A g.2.2.length cap] 30)).cell? ⟨w.heap.size, 2, none⟩ = some (.slice A g.2.2.length cap) := by simp [go_sem]
  have sA : w.heap.size < (w.alloc (Obj.cells #[Value.int IntKind.i64 g.1, Value.int IntKind.i64 g.2.1, .slice A g.2.2.length cap] 30)).heap.size := by simp
  generalize w.alloc (Obj.cells #[Value.int IntKind.i64 g.1, Value.int IntKind.i64 g.2.1, .slice A g.2.2.length cap] 30) = W at bx l0 l1 l2 sA ⊢
  have BX := Lib.hid bx
  have HA : Hid (∀ w', Below W.heap.size W w' → ArgG w' (.agg #[.int .i64 g.1, .int .i64 g.2.1, .slice A g.2.2.length cap]) g) := Lib.hid fun w' hb => HG.out.below (BX.out.trans (hb.mono (by omega)))
  have L0 := Lib.hid l0
  have L1 := Lib.hid l1
  have L2 := Lib.hid l2
  clear bx l0 l1 l2
  refine (implReduceLetters_any _ ws W (HW.out.below BX.out) (by omega)).mono ?_
  rintro e w1 ⟨rx, rfl, ox, b1⟩
  generalize redL [] ws = x at *
  have s1 := b1.size
  obtain ⟨Ax, capx, rfl, hcx, hmx, _⟩ := OwI.form ox
  have OX := Lib.hid ox
  have B1 := Lib.hid b1
  have q0 := (b1.cell (p := ⟨w.heap.size, 0, none⟩) sA).trans L0.out
  have q1 := (b1.cell (p := ⟨w.heap.size, 1, none⟩) sA).trans L1.out
  have q2 := (b1.cell (p := ⟨w.heap.size, 2, none⟩) sA).trans L2.out
  clear b1 ox
  go_wp2_with fail
  refine (implIsCore_any _ g w1 (HA.out _ B1.out)).mono ?_
  rintro e w2 ⟨rfl, b2⟩
  have B2 := Lib.hid (B1.out.trans (b2.mono s1))
  have OX2 := Lib.hid (OX.out.below b2)
  have s2 := B2.out.size
  clear b2 q0 q1 q2
  have q0 := (B2.out.cell (p := ⟨w.heap.size, 0, none⟩) sA).trans L0.out
  have q1 := (B2.out.cell (p := ⟨w.heap.size, 1, none⟩) sA).trans L1.out
  have q2 := (B2.out.cell (p := ⟨w.heap.size, 2, none⟩) sA).trans L2.out
  rcases e1 : coreB g with _ | _
  · have HR : Hid (P = 0) := Lib.hid (by rw [HP.out, e1]; rfl)
    clear e1
    go_wp2
    exact bodyPost_ret (v := .int .i64 0) (by simp [results, Tryz.results23]) rfl ⟨by rw [HR.out], BX.out.trans (B2.out.mono (Nat.le_of_lt sA))⟩
  have HC := Lib.hid e1
  have hfold := coreB_foldB e1
  have HF := Lib.hid hfold
  obtain ⟨hr13, hsz40, hl120, _⟩ := grB_parts (foldB_parts hfold).1
  obtain ⟨N, hN⟩ : ∃ N : Nat, g.2.1 = (N : Int) := ⟨g.2.1.toNat, by omega⟩
  have HWR : Hid (∀ (u : Int) (c : List Int), 0 ≤ u ∧ u < N → walkF g.2.2 u c = -1 ∨ (0 ≤ walkF g.2.2 u c ∧ walkF g.2.2 u c < N)) := Lib.hid fun u c hu => by
    have := walkF_range (foldB_parts hfold).1 c u (by rw [hN]; exact hu)
    rwa [hN] at this
  have hN1 : 1 ≤ N := by omega
  have hN2 : N ≤ 40 := by omega
  have HN := Lib.hid hN
  have HNT : Hid (g.2.1.toNat = N) := Lib.hid (by omega)
  clear hfold e1 hN
  go_wp2_with fail
  refine (implIsWord_any _ _ x _ OX2.out.rd.arg (by omega)).mono ?_
  rintro e w3 ⟨rfl, rfl⟩
  rcases e2 : wordB g.1 x with _ | _
  · have HR : Hid (P = 0) := Lib.hid (by rw [HP.out, HC.out, e2]; rfl)
    clear e2
    go_wp2
    exact bodyPost_ret (v := .int .i64 0) (by simp [results, Tryz.results23]) rfl ⟨by rw [HR.out], BX.out.trans (B2.out.mono (Nat.le_of_lt sA))⟩
  have HP2 : Hid (P = if x = [] then 1 else if walkF g.2.2 0 (prefF x) < 0 then 0 else powGo g.2.2 (coreF x) (walkF g.2.2 0 (prefF x)) g.2.1.toNat (walkF g.2.2 0 (prefF x)) 1) := Lib.hid (by rw [HP.out, HC.out, e2]; rfl)
  clear e2
  by_cases hx0 : x = []
  · have HR : Hid (P = 1) := Lib.hid (by rw [HP2.out, if_pos hx0])
    have hc0 : x.length = 0 := by rw [hx0]; rfl
    rw [hc0]
    go_wp2
    exact bodyPost_ret (v := .int .i64 1) (by simp [results, Tryz.results23]) rfl ⟨by rw [HR.out], BX.out.trans (B2.out.mono (Nat.le_of_lt sA))⟩
  have hx1 : 0 < x.length := List.length_pos_iff.2 hx0
  have gx : ((x.length : Int) == 0) = false := by rw [beq_eq_false_iff_ne]; omega
  have HX0 := Lib.hid hx0
  clear hx0
  go_wp2_with fail
  refine (implCyclicCore_any _ x _ OX2.out.rd hxl).mono ?_
  rintro e w4 ⟨rc, rp, rfl, oc, op, b4⟩
  have B4 := Lib.hid (B2.out.trans (b4.mono s2))
  have s4 := B4.out.size
  obtain ⟨Ac, capc, rfl, hcc, hmc, _⟩ := OwI.form oc
  obtain ⟨Ap, capp, rfl, _⟩ := op.arg
  have OC := Lib.hid oc.rd
  have OP := Lib.hid op
  clear oc op b4 q0 q1 q2
  have q0 := (B4.out.cell (p := ⟨w.heap.size, 0, none⟩) sA).trans L0.out
  have q1 := (B4.out.cell (p := ⟨w.heap.size, 1, none⟩) sA).trans L1.out
  have q2 := (B4.out.cell (p := ⟨w.heap.size, 2, none⟩) sA).trans L2.out
  go_wp2_with fail
  refine (read_any _ _ g 0 (prefF x) _ (HA.out _ B4.out) OP.out HF.out ⟨Int.le_refl _, by rw [HN.out]; omega⟩).mono ?_
  rintro e w5 ⟨rfl, b5⟩
  have B5 := Lib.hid (B4.out.trans (b5.mono s4))
  have s5 := B5.out.size
  have OC5 := Lib.hid (OC.out.below b5)
  clear b5 q0 q1 q2
  have HV := Lib.hid (HWR.out 0 (prefF x) ⟨Int.le_refl _, by omega⟩)
  have hwr := walk_read g.2.2 (prefF x) 0 (Int.le_refl _)
  have hrl := readF_le g.2.2 (prefF x) 0
  have hpl := HCL.out.2
  have HP3 : Hid (P = if walkF g.2.2 0 (prefF x) < 0 then 0 else powGo g.2.2 (coreF x) (walkF g.2.2 0 (prefF x)) N (walkF g.2.2 0 (prefF x)) 1) := Lib.hid (by rw [HP2.out, if_neg HX0.out, HNT.out])
  clear HP2
  generalize walkF g.2.2 0 (prefF x) = v0 at *
  generalize (prefF x).length = pl at hwr hrl hpl ⊢
  generalize readF g.2.2 0 (prefF x) = rr at *
  obtain ⟨r1, r2⟩ := rr
  simp only at hwr hrl ⊢
  rcases hwr with ⟨hv0, hlt2⟩ | ⟨hv0, hlt2, hv1⟩
  · have HR : Hid (P = 0) := Lib.hid (by rw [HP3.out, if_pos hv0])
    have hi : (r2 : Int) < (pl : Int) := by omega
    go_wp2
    exact bodyPost_ret (v := .int .i64 0) (by simp [results, Tryz.results23]) rfl ⟨by rw [HR.out], BX.out.trans (B5.out.mono (Nat.le_of_lt sA))⟩
  subst hlt2 hv1
  have hv2 : r1 < N := by have := HV.out; omega
  have HP4 : Hid (P = powGo g.2.2 (coreF x) r1 N r1 1) := Lib.hid (by rw [HP3.out, if_neg (by omega)])
  generalize hcc' : coreF x = c at *
  have hcl := HCL.out.1
  clear hcc' HCL
  go_wp2
  go_loopw [10, 11] (fun a i wr => ∃ (u : Int) (k : Nat), a = .int .i64 u ∧ i = .int .i64 k ∧ 1 ≤ k ∧ k ≤ N + 1 ∧ (0 ≤ u ∧ u < N) ∧ P = powGo g.2.2 c r1 (N + 1 - k) u k ∧ Below W.heap.size W wr ∧ RdI wr (.slice Ac c.length capc) c) (fun _ i _ => N + 1 - (intOf i).toNat)
  case atStart => exact ⟨r1, 1, rfl, rfl, Nat.le_refl _, by omega, ⟨hv0, hv2⟩, by rw [HP4.out]; rfl, B5.out, OC5.out⟩
  case round =>
    obtain ⟨u, k, rfl, rfl, hk1, hk, hu, hPk, hbel, hrd⟩ := hrel
    have HB := Lib.hid hbel
    have HPK := Lib.hid hPk
    have HRD := Lib.hid hrd
    have hs := hbel.size
    have q0 := (hbel.cell (p := ⟨w.heap.size, 0, none⟩) sA).trans L0.out
    have q2 := (hbel.cell (p := ⟨w.heap.size, 2, none⟩) sA).trans L2.out
    have q1' := (hbel.cell (p := ⟨w.heap.size, 1, none⟩) sA).trans L1.out
    rw [HN.out] at q1'
    clear hPk hbel hrd
    by_cases hlt : k ≤ N
    · have hki : (k : Int) ≤ (N : Int) := by omega
      have ST : Hid (powGo g.2.2 c r1 (N + 1 - k) u k = if walkF g.2.2 u c < 0 then 0 else if walkF g.2.2 u c = r1 then (k : Int) else powGo g.2.2 c r1 (N + 1 - (k + 1)) (walkF g.2.2 u c) ((k : Int) + 1)) := Lib.hid (by
        rw [show N + 1 - k = (N + 1 - (k + 1)) + 1 by omega]
        rfl)
      go_wp2_with fail
      rw [← HN.out]
      refine (read_any _ _ g u c _ (HA.out _ HB.out) HRD.out HF.out ⟨hu.1, by rw [HN.out]; omega⟩).mono ?_
      rintro e w9 ⟨rfl, b9⟩
      have B9 := Lib.hid (HB.out.trans (b9.mono (by omega)))
      have RD9 := Lib.hid (HRD.out.below b9)
      clear b9 q0 q1' q2
      have HY := Lib.hid (HWR.out u c hu)
      have hwr := walk_read g.2.2 c u hu.1
      generalize walkF g.2.2 u c = y at *
      generalize readF g.2.2 u c = rr at *
      obtain ⟨y1, y2⟩ := rr
      simp only at hwr ⊢
      rcases hwr with ⟨hy, hy2⟩ | ⟨hy, hy2, hy1⟩
      · have hi : (y2 : Int) < (c.length : Int) := by omega
        have F : Hid (P = 0) := Lib.hid (by rw [HPK.out, ST.out, if_pos hy])
        go_wp2
        exact bodyPost_ret (v := .int .i64 0) (by simp [results, Tryz.results23]) rfl ⟨by rw [F.out], BX.out.trans (B9.out.mono (by omega))⟩
      · subst hy2 hy1
        rcases hyv : (y1 == r1) with _ | _
        · have F : Hid (P = powGo g.2.2 c r1 (N + 1 - (k + 1)) y1 ((k : Int) + 1)) := Lib.hid (by rw [HPK.out, ST.out, if_neg (by omega), if_neg (by simpa using hyv)])
          go_wp2
          go_roundw
          case rel => exact ⟨y1, k + 1, rfl, by go_num, by omega, by omega, by have := HY.out; omega, by rw [F.out]; rfl, B9.out, RD9.out⟩
          case measure => simp [intOf]; omega
        · have F : Hid (P = (k : Int)) := Lib.hid (by rw [HPK.out, ST.out, if_neg (by omega), if_pos (by simpa using hyv)])
          go_wp2
          exact bodyPost_ret (v := .int .i64 k) (by simp [results, Tryz.results23]) rfl ⟨by rw [F.out], BX.out.trans (B9.out.mono (by omega))⟩
    · have hki : ¬ (k : Int) ≤ (N : Int) := by omega
      have F : Hid (P = 0) := Lib.hid (by
        rw [HPK.out, show N + 1 - k = 0 by omega]
        rfl)
      go_wp2
      exact bodyPost_ret (v := .int .i64 0) (by simp [results, Tryz.results23]) rfl ⟨by rw [F.out], BX.out.trans (HB.out.mono (by omega))⟩
end Go.Proofs.YtbflljcafbneaaaGreat
