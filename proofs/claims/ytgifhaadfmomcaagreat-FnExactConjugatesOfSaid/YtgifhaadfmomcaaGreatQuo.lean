/- QuotientsOf of the reference and of the program. -/
import Derived.Test.YtgifhaadfmomcaaGreatCoreGS
import Derived.Test.YtgifhaadfmomcaaGreatFoldK
import Derived.Test.YtgifhaadfmomcaaGreatLst
namespace Go.Proofs.YtgifhaadfmomcaaGreat
set_option maxRecDepth 20000
set_option linter.unusedVariables false
set_option linter.unusedSimpArgs false
open Go.RowKit

def addG (l : List GrD) (x : GrD) : List GrD := if inG l x = true then l else l ++ [x]
def quoV (g : GrD) (u : Nat) (out : List GrD) : Nat → List GrD
  | 0 => out
  | j + 1 => addG (quoV g u out j) (coreG (merG g ((u : Int), ((u + 1 + j : Nat) : Int))))
def quoU (g : GrD) : Nat → List GrD
  | 0 => []
  | u + 1 => quoV g u (quoU g u) (g.2.1.toNat - (u + 1))
def quotF (g : GrD) : List GrD := if coreB g = true then quoU g g.2.1.toNat else []
theorem addG_len (l : List GrD) (x : GrD) : (addG l x).length ≤ l.length + 1 := by
  unfold addG
  split
  · omega
  · simp
theorem quoV_len (g : GrD) (u : Nat) (out : List GrD) : ∀ j, (quoV g u out j).length ≤ out.length + j
  | 0 => Nat.le_refl _
  | j + 1 => by
    have h1 := quoV_len g u out j
    have h2 := addG_len (quoV g u out j) (coreG (merG g ((u : Int), ((u + 1 + j : Nat) : Int))))
    unfold quoV
    omega
theorem quoU_len (g : GrD) : ∀ u, (quoU g u).length ≤ u * g.2.1.toNat
  | 0 => by simp [quoU]
  | u + 1 => by
    have h1 := quoU_len g u
    have h2 := quoV_len g u (quoU g u) (g.2.1.toNat - (u + 1))
    unfold quoU
    rw [Nat.succ_mul]
    omega
theorem quoV_step (g : GrD) (u : Nat) (out : List GrD) (m : Nat) (h : u < m) : quoV g u out (m + 1 - (u + 1)) = addG (quoV g u out (m - (u + 1))) (coreG (merG g ((u : Int), (m : Int)))) := by
  obtain ⟨j, rfl⟩ : ∃ j, m = u + 1 + j := ⟨m - (u + 1), by omega⟩
  rw [show u + 1 + j + 1 - (u + 1) = j + 1 by omega, show u + 1 + j - (u + 1) = j by omega]
  rfl
/-- 'out = append(out, x)', x a graph made since. -/
theorem push_graph {lo : Nat} {w0 w : World} {v : Value} {L : List GrD} {ops : Array Oper} {rest : List Oper} {o : Oper} {a : Act} {Q : Exit → Act → World → Prop} (hgd : o.guard = none) (s x : Operand)
    (ho : o.op = .call { callee := .builtin .append, args := #[s, x], argTypes := #[26, 26] })
    (hown : OGS lo w0.heap.size v L w0) (hlo : lo ≤ w0.heap.size) (hbel : Below w0.heap.size w0 w) (hs : a.eval s = v) (b : Nat) (z : Value) (d : GrD) {base : Nat} (hx : a.eval x = .slice (some ⟨b, 0, none⟩) 1 1)
    (hel : OwE w base z d.2.2) (hi1 : I64 d.1) (hi2 : I64 d.2.1) (hbase : w0.heap.size ≤ base) (hc : ∀ j u, [Value.int .i64 d.1, .int .i64 d.2.1, z][j]? = some u → w.cell? ⟨b, j, none⟩ = some u) (hz : z.oneCell' = true) (hl : L.length ≤ 1073741824)
    (h : ∀ v' w', OGS lo w'.heap.size v' (L ++ [d]) w' → w.grownBy w' v.ownBlock → wpList Tryz.prog ops Q rest (a.put o.dst v') w') :
    wpList Tryz.prog ops Q (o :: rest) a w := by
  obtain ⟨i0, hi0, hz0, hz1, hz2⟩ := info_parts graph_info
  refine push_own EG.stable hgd s x ho Tryz.underlying26 hi0 hz0 hz1 hz2 rfl (by decide) (by decide) hown hlo hbel hs b [.int .i64 d.1, .int .i64 d.2.1, z] d z.ownBlock.toList hx ⟨z, rfl, hi1, hi2, hel.mono (Nat.zero_le _), rfl⟩ rfl ?_ ?_ hc ?_ hl h
  · cases z.ownBlock <;> simp
  · intro k hk
    have := hel.1.lt k (by simpa using hk)
    omega
  · intro u hu
    simp at hu
    rcases hu with rfl | rfl | rfl
    · rfl
    · rfl
    · exact hz
theorem gr_lit (w : World) (N : Nat) (hN : w.heap.size = N) (a b c : Value) (t : TypeId) : ∀ j u, [a, b, c][j]? = some u → (w.alloc (.cells #[a, b, c] t)).cell? ⟨N, j, none⟩ = some u := by
  subst hN
  intro j u hj
  match j, hj with
  | 0, hj => simp at hj; subst hj; simp [go_sem]
  | 1, hj => simp at hj; subst hj; simp [go_sem]
  | 2, hj => simp at hj; subst hj; simp [go_sem]
theorem OGS_lit (w : World) (N : Nat) (hN : w.heap.size = N) {lo : Nat} (h : lo ≤ N) : OGS lo (N + 1) (.slice (some ⟨N, 0, none⟩) 0 0) [] (w.alloc (.cells #[] 30)) := by
  subst hN
  refine OwnL.nil (by have := World.ownsRow_lit (e := 30) (size := 3) (base := 0) w #[] 0 (Nat.zero_le _) (by unfold maxLen; omega) (by simp); simpa using this) fun b hb => ?_
  simp [Value.ownBlock] at hb
  omega
set_option maxHeartbeats 2000000 in
theorem specQuotientsOf_any (v : Value) (g : GrD) (w : World) (h : ArgG w v g) :
    Calls Tryz.prog 7 #[v] w fun e w' => ∃ r, e = .returned r ∧ OGS w.heap.size w'.heap.size r (quotF g) w' ∧ Below w.heap.size w w' := by
  have HG := Lib.hid h
  obtain ⟨s, rfl, hi1, hi2, ha⟩ := h
  obtain ⟨A, cap, rfl⟩ := ha.form
  obtain ⟨g1, N, es⟩ := g
  simp only at *
  clear ha
  go_enter Tryz.func7, Tryz.ntmps7
  have bx : Below w.heap.size w ((w.alloc (Obj.cells #[Value.int IntKind.i64 g1, Value.int IntKind.i64 N, .slice A es.length cap] 30)).alloc (.cells #[] 30)) := (by repeat (first | exact Below.refl _ _ | (refine Below.setCell ?_ (by first | omega | (simp <;> omega)) _) | (refine bel_drewN ?_ _) | (refine Below.drew ?_) | (refine Below.alloc ?_ (by first | omega | (simp <;> omega)) _)))
  have HOU := Lib.hid (OGS_lit (w.alloc (Obj.cells #[Value.int IntKind.i64 g1, Value.int IntKind.i64 N, .slice A es.length cap] 30)) (w.heap.size + 1) (by simp) (lo := w.heap.size + 1) (Nat.le_refl _))
  go_wp2
  obtain ⟨W, hW⟩ : ∃ W, W = (w.alloc (Obj.cells #[Value.int IntKind.i64 g1, Value.int IntKind.i64 N, .slice A es.length cap] 30)).alloc (.cells #[] 30) := ⟨_, rfl⟩
  rw [← hW] at bx HOU ⊢
  have hsW : W.heap.size = w.heap.size + 2 := by rw [hW]; simp
  have L0 : Hid (W.cell? ⟨w.heap.size, 0, none⟩ = some (.int .i64 g1)) := Lib.hid (by rw [hW]; simp [go_sem])
  have L1 : Hid (W.cell? ⟨w.heap.size, 1, none⟩ = some (.int .i64 N)) := Lib.hid (by rw [hW]; simp [go_sem])
  have L2 : Hid (W.cell? ⟨w.heap.size, 2, none⟩ = some (.slice A es.length cap)) := Lib.hid (by rw [hW]; simp [go_sem])
  have BX := Lib.hid bx
  have HA : Hid (∀ w', Below (w.heap.size + 1) W w' → ArgG w' (.agg #[.int .i64 g1, .int .i64 N, .slice A es.length cap]) (g1, N, es)) := Lib.hid fun w' hb => HG.out.below (BX.out.trans (hb.mono (by omega)))
  have HCL : Hid (∀ w', Below (w.heap.size + 1) W w' → w'.cell? ⟨w.heap.size, 0, none⟩ = some (.int .i64 g1) ∧ w'.cell? ⟨w.heap.size, 1, none⟩ = some (.int .i64 N) ∧ w'.cell? ⟨w.heap.size, 2, none⟩ = some (.slice A es.length cap)) := Lib.hid fun w' hb =>
    ⟨(hb.cell (p := ⟨w.heap.size, 0, none⟩) (by show w.heap.size < _; omega)).trans L0.out, (hb.cell (p := ⟨w.heap.size, 1, none⟩) (by show w.heap.size < _; omega)).trans L1.out, (hb.cell (p := ⟨w.heap.size, 2, none⟩) (by show w.heap.size < _; omega)).trans L2.out⟩
  have HIS := Lib.hid (fun W' hb => specIsSubgroup_any _ (g1, N, es) W' (HA.out W' hb))
  clear hW bx L0 L1 L2
  rcases ec : coreB (g1, N, es) with _ | _
  · have F : Hid (quotF (g1, N, es) = []) := Lib.hid (by unfold quotF; rw [ec]; rfl)
    rw [ec] at HIS
    clear ec
    go_loopw [3, 4] (fun out i wr => i = .int .i64 0 ∧ OGS (w.heap.size + 1) wr.heap.size out [] wr ∧ Below (w.heap.size + 1) W wr) (fun _ _ _ => 0)
    case atStart => exact ⟨rfl, OwnL.widen HOU.out (Nat.le_refl _) (by omega), (Below.refl W.heap.size W).mono (by omega)⟩
    case round =>
      obtain ⟨rfl, ho, hb⟩ := hrel
      have HO := Lib.hid ho
      have HB := Lib.hid hb
      obtain ⟨wi, rfl⟩ : ∃ wi : World, wi = wr := ⟨_, rfl⟩
      clear ho hb
      have hwi := HB.out.size
      obtain ⟨q0, q1, q2⟩ := HCL.out wi HB.out
      obtain ⟨Ao, co, rfl, _⟩ := OwnL.len HO.out
      have HOF := Lib.hid (OwnL.widen HO.out (show w.heap.size ≤ w.heap.size + 1 by omega) (Nat.le_refl _))
      have HBF : Hid (Below w.heap.size w wi) := Lib.hid (BX.out.trans (HB.out.mono (by omega)))
      rcases e0 : decide ((0 : Int) < N) with _ | _
      · go_wp2
        go_ret
        rw [F.out]
        exact ⟨_, rfl, HOF.out, HBF.out⟩
      · go_wp2_with fail
        refine (HIS.out wi HB.out).mono ?_
        rintro e w3 ⟨rfl, b3⟩
        have HOF3 := Lib.hid ((OwnL.keep HOF.out EG.stable fun b _ hlt => b3.block b hlt).widen (Nat.le_refl _) b3.size)
        have HBF3 := Lib.hid (HBF.out.trans (b3.mono (by omega)))
        clear b3 q0 q1 q2
        go_wp2
        go_ret
        rw [F.out]
        exact ⟨_, rfl, HOF3.out, HBF3.out⟩
  have hfold : foldB (g1, N, es) = true := by have h := ec; unfold coreB at h; simp only [Bool.and_eq_true] at h; exact h.1.1
  have hgr := (foldB_parts hfold).1
  have HGR := Lib.hid hgr
  obtain ⟨h13, h40, h120, _⟩ := grB_parts hgr
  simp only at h13 h40 h120
  obtain ⟨n, rfl⟩ : ∃ n : Nat, N = (n : Int) := ⟨N.toNat, by omega⟩
  have F : Hid (quotF (g1, (n : Int), es) = quoU (g1, (n : Int), es) n) := Lib.hid (by unfold quotF; rw [if_pos ec]; rfl)
  have HUL := Lib.hid (quoU_len (g1, (n : Int), es))
  rw [ec] at HIS
  clear ec hfold hgr
  go_loopw [3, 4] (fun out i wr => ∃ u : Nat, u ≤ n ∧ i = .int .i64 u ∧ OGS (w.heap.size + 1) wr.heap.size out (quoU (g1, (n : Int), es) u) wr ∧ Below (w.heap.size + 1) W wr) (fun _ i _ => n - (intOf i).toNat)
  case atStart => exact ⟨0, Nat.zero_le _, rfl, OwnL.widen HOU.out (Nat.le_refl _) (by omega), (Below.refl W.heap.size W).mono (by omega)⟩
  case round =>
    obtain ⟨u, hu, rfl, ho, hb⟩ := hrel
    have HO1 := Lib.hid ho
    have HB1 := Lib.hid hb
    obtain ⟨wi, rfl⟩ : ∃ wi : World, wi = wr := ⟨_, rfl⟩
    clear ho hb
    have hwi := HB1.out.size
    obtain ⟨q0, q1, q2⟩ := HCL.out wi HB1.out
    by_cases hlt : u < n
    · have huI : (u : Int) < (n : Int) := by omega
      go_wp2_with fail
      refine (HIS.out wi HB1.out).mono ?_
      rintro e w3 ⟨rfl, b3⟩
      have HO3 := Lib.hid ((OwnL.keep HO1.out EG.stable fun b _ hlt => b3.block b hlt).widen (Nat.le_refl _) b3.size)
      have HB3 := Lib.hid (HB1.out.trans (b3.mono (by omega)))
      clear b3 q0 q1 q2
      go_wp2
      go_loopw [3, 5] (fun out i wr => ∃ m : Nat, u < m ∧ m ≤ n ∧ i = .int .i64 m ∧ OGS (w.heap.size + 1) wr.heap.size out (quoV (g1, (n : Int), es) u (quoU (g1, (n : Int), es) u) (m - (u + 1))) wr ∧ Below (w.heap.size + 1) W wr) (fun _ i _ => n - (intOf i).toNat)
      case atStart => exact ⟨u + 1, by omega, by omega, by go_num, by rw [Nat.sub_self]; exact HO3.out, HB3.out⟩
      case round =>
        obtain ⟨m, hum, hmn, rfl, ho, hb⟩ := hrel
        have HO := Lib.hid ho
        have HB := Lib.hid hb
        obtain ⟨wj, rfl⟩ : ∃ wj : World, wj = wr := ⟨_, rfl⟩
        clear ho hb
        have hwj := HB.out.size
        have hwj2 : w.heap.size + 1 ≤ wj.heap.size := by omega
        obtain ⟨q0, q1, q2⟩ := HCL.out wj HB.out
        by_cases hlt2 : m < n
        · have hmI : (m : Int) < (n : Int) := by omega
          have HST := Lib.hid (quoV_step (g1, (n : Int), es) u (quoU (g1, (n : Int), es) u) m hum)
          have HLV := Lib.hid (quoV_len (g1, (n : Int), es) u (quoU (g1, (n : Int), es) u) (m - (u + 1)))
          generalize quoV (g1, (n : Int), es) u (quoU (g1, (n : Int), es) u) (m - (u + 1)) = LO at *
          have hlo : LO.length ≤ 1073741824 := by have h1 := HLV.out; have h2 := HUL.out u; have h3 : u * n ≤ 40 * 40 := Nat.mul_le_mul (by omega) (by omega); simp only [Int.toNat_natCast] at h2; omega
          have hfm : 0 ≤ (u : Int) ∧ (u : Int) < (m : Int) ∧ (m : Int) < (n : Int) := by omega
          have HGM := Lib.hid (grB_merG (g := (g1, (n : Int), es)) (f := ((u : Int), (m : Int))) HGR.out hfm)
          go_wp2_with fail
          refine (specMergeVertices_any _ (g1, (n : Int), es) ((u : Int), (m : Int)) wj (HA.out wj HB.out) HGR.out hfm).mono ?_
          rintro e w5 ⟨r5, rfl, o5, b5⟩
          generalize merG (g1, (n : Int), es) ((u : Int), (m : Int)) = M at *
          obtain ⟨m1, m2, ms⟩ := M
          have HM5 := Lib.hid o5
          obtain ⟨s5, rfl, _, _, oe5⟩ := o5
          obtain ⟨A5, c5, rfl, _⟩ := oe5.form
          have hs5 := b5.size
          have B5 := Lib.hid (HB.out.trans (b5.mono (by omega)))
          have BJ5 := Lib.hid b5
          simp only at *
          clear oe5 b5 q0 q1 q2
          have bX : Below w5.heap.size w5 (w5.alloc (Obj.cells #[Value.int IntKind.i64 m1, Value.int IntKind.i64 m2, .slice A5 ms.length c5] 30)) := (Below.refl _ _).alloc (Nat.le_refl _) _
          have hsX := bX.size
          have BX5 := Lib.hid bX
          go_wp2_with fail
          refine (specCoreGraph_any _ (m1, m2, ms) _ (HM5.out.arg.below bX) HGM.out).mono ?_
          rintro e w6 ⟨r6, rfl, o6, b6⟩
          generalize coreG (m1, m2, ms) = K at *
          obtain ⟨k1, k2, ks⟩ := K
          have HK6 := Lib.hid o6
          obtain ⟨s6, rfl, hj1, hj2, oe6⟩ := o6
          obtain ⟨A6, c6, rfl, _⟩ := oe6.form
          have hs6 := b6.size
          have BJ6 := Lib.hid (BJ5.out.trans ((bX.trans (b6.mono hsX)).mono hs5))
          simp only at *
          have OE6 := Lib.hid oe6
          clear oe6 b6 bX
          have hz6 := BJ6.out.size
          have bY : Below w6.heap.size w6 (w6.alloc (Obj.cells #[Value.int IntKind.i64 k1, Value.int IntKind.i64 k2, .slice A6 ks.length c6] 30)) := (Below.refl _ _).alloc (Nat.le_refl _) _
          have BJY := Lib.hid (BJ6.out.trans (bY.mono hz6))
          have HOY := Lib.hid ((OwnL.keep HO.out EG.stable fun b _ hlt => BJY.out.block b hlt).widen (Nat.le_refl _) BJY.out.size)
          obtain ⟨Ao, co, hov, _⟩ := OwnL.len HO.out
          subst hov
          go_wp2_with fail
          obtain ⟨WY, hWY⟩ : ∃ W, W = w6.alloc (Obj.cells #[Value.int IntKind.i64 k1, Value.int IntKind.i64 k2, .slice A6 ks.length c6] 30) := ⟨_, rfl⟩
          have y0 : Hid (WY.cell? ⟨w6.heap.size, 0, none⟩ = some (.int .i64 k1)) := Lib.hid (by rw [hWY]; simp [go_sem])
          have y1 : Hid (WY.cell? ⟨w6.heap.size, 1, none⟩ = some (.int .i64 k2)) := Lib.hid (by rw [hWY]; simp [go_sem])
          have y2 : Hid (WY.cell? ⟨w6.heap.size, 2, none⟩ = some (.slice A6 ks.length c6)) := Lib.hid (by rw [hWY]; simp [go_sem])
          have hsY : WY.heap.size = w6.heap.size + 1 := by rw [hWY]; simp
          rw [← hWY] at bY BJY HOY ⊢
          clear hWY
          refine (specIsListed_any _ _ LO (k1, k2, ks) WY (OGS.arg HOY.out) (HK6.out.arg.below bY)).mono ?_
          rintro e w7 ⟨rfl, b7⟩
          have hs7 := b7.size
          have z0 := (b7.cell (p := ⟨w6.heap.size, 0, none⟩) (by show w6.heap.size < _; omega)).trans y0.out
          have z1 := (b7.cell (p := ⟨w6.heap.size, 1, none⟩) (by show w6.heap.size < _; omega)).trans y1.out
          have z2 := (b7.cell (p := ⟨w6.heap.size, 2, none⟩) (by show w6.heap.size < _; omega)).trans y2.out
          have BJ7 := Lib.hid (BJY.out.trans (b7.mono BJY.out.size))
          have OE7 := Lib.hid ((OE6.out.below bY).below b7)
          clear b7 bY
          rcases ei : inG LO (k1, k2, ks) with _ | _
          · have HAD : Hid (addG LO (k1, k2, ks) = LO ++ [(k1, k2, ks)]) := Lib.hid (by unfold addG; rw [ei]; rfl)
            clear ei
            go_wp2_with (at_builtin; refine push_graph rfl (.tmp 42) (.tmp 44) rfl HO.out hwj2 (BJ7.out.alloc BJ7.out.size _) rfl _ (.slice A6 ks.length c6) (k1, k2, ks) rfl (OE7.out.alloc _) hj1 hj2 (by omega) (gr_lit _ _ rfl _ _ _ _) rfl hlo ?_; intro v8 w8 o8 g8; have O8 := Lib.hid o8; have B8 : Hid (Below (w.heap.size + 1) W w8) := Lib.hid ((HB.out.trans ((BJ7.out.alloc BJ7.out.size (Obj.cells #[Value.int IntKind.i64 k1, Value.int IntKind.i64 k2, .slice A6 ks.length c6] 30)).mono hwj2)).grown g8 (by have := BJ7.out.size; simp <;> omega) (fun c hc => (HO.out.lt hc).1)); clear o8 g8)
            go_roundw
            case rel => exact ⟨m + 1, by omega, by omega, by go_num, by rw [HST.out, HAD.out]; exact O8.out, B8.out⟩
            case measure => simp [intOf]; omega
          · have HAD : Hid (addG LO (k1, k2, ks) = LO) := Lib.hid (by unfold addG; rw [ei]; rfl)
            have HO7 := Lib.hid ((OwnL.keep HO.out EG.stable fun b _ hlt => BJ7.out.block b hlt).widen (Nat.le_refl _) BJ7.out.size)
            have HB7 := Lib.hid (HB.out.trans (BJ7.out.mono hwj2))
            clear ei z0 z1 z2
            go_wp2
            go_roundw
            case rel => exact ⟨m + 1, by omega, by omega, by go_num, by rw [HST.out, HAD.out]; exact HO7.out, HB7.out⟩
            case measure => simp [intOf]; omega
        · obtain rfl : m = n := by omega
          have HQU : Hid (quoU (g1, (m : Int), es) (u + 1) = quoV (g1, (m : Int), es) u (quoU (g1, (m : Int), es) u) (m - (u + 1))) := Lib.hid rfl
          go_wp2
          go_roundw
          case rel => exact ⟨u + 1, by omega, by go_num, by rw [HQU.out]; exact HO.out, HB.out⟩
          case measure => simp [intOf]; omega
    · obtain rfl : u = n := by omega
      obtain ⟨Ao, co, hov, _⟩ := OwnL.len HO1.out
      subst hov
      have HOF := Lib.hid (OwnL.widen HO1.out (show w.heap.size ≤ w.heap.size + 1 by omega) (Nat.le_refl _))
      have HBF : Hid (Below w.heap.size w wi) := Lib.hid (BX.out.trans (HB1.out.mono (by omega)))
      go_wp2
      go_ret
      rw [F.out]
      exact ⟨_, rfl, HOF.out, HBF.out⟩
set_option maxHeartbeats 2000000 in
theorem implQuotientsOf_any (v : Value) (g : GrD) (w : World) (h : ArgG w v g) :
    Calls Tryz.prog 9 #[v] w fun e w' => ∃ r, e = .returned r ∧ OGS w.heap.size w'.heap.size r (quotF g) w' ∧ Below w.heap.size w w' := by
  have HG := Lib.hid h
  obtain ⟨s, rfl, hi1, hi2, ha⟩ := h
  obtain ⟨A, cap, rfl⟩ := ha.form
  obtain ⟨g1, N, es⟩ := g
  simp only at *
  clear ha
  go_enter Tryz.func9, Tryz.ntmps9
  have bx : Below w.heap.size w ((w.alloc (Obj.cells #[Value.int IntKind.i64 g1, Value.int IntKind.i64 N, .slice A es.length cap] 30)).alloc (.cells #[] 30)) := (by repeat (first | exact Below.refl _ _ | (refine Below.setCell ?_ (by first | omega | (simp <;> omega)) _) | (refine bel_drewN ?_ _) | (refine Below.drew ?_) | (refine Below.alloc ?_ (by first | omega | (simp <;> omega)) _)))
  have HOU := Lib.hid (OGS_lit (w.alloc (Obj.cells #[Value.int IntKind.i64 g1, Value.int IntKind.i64 N, .slice A es.length cap] 30)) (w.heap.size + 1) (by simp) (lo := w.heap.size + 1) (Nat.le_refl _))
  go_wp2_with fail
  obtain ⟨W, hW⟩ : ∃ W, W = (w.alloc (Obj.cells #[Value.int IntKind.i64 g1, Value.int IntKind.i64 N, .slice A es.length cap] 30)).alloc (.cells #[] 30) := ⟨_, rfl⟩
  rw [← hW] at bx HOU ⊢
  have hsW : W.heap.size = w.heap.size + 2 := by rw [hW]; simp
  have L0 : Hid (W.cell? ⟨w.heap.size, 0, none⟩ = some (.int .i64 g1)) := Lib.hid (by rw [hW]; simp [go_sem])
  have L1 : Hid (W.cell? ⟨w.heap.size, 1, none⟩ = some (.int .i64 N)) := Lib.hid (by rw [hW]; simp [go_sem])
  have L2 : Hid (W.cell? ⟨w.heap.size, 2, none⟩ = some (.slice A es.length cap)) := Lib.hid (by rw [hW]; simp [go_sem])
  have BX := Lib.hid bx
  have HA : Hid (∀ w', Below (w.heap.size + 1) W w' → ArgG w' (.agg #[.int .i64 g1, .int .i64 N, .slice A es.length cap]) (g1, N, es)) := Lib.hid fun w' hb => HG.out.below (BX.out.trans (hb.mono (by omega)))
  have HCL : Hid (∀ w', Below (w.heap.size + 1) W w' → w'.cell? ⟨w.heap.size, 0, none⟩ = some (.int .i64 g1) ∧ w'.cell? ⟨w.heap.size, 1, none⟩ = some (.int .i64 N) ∧ w'.cell? ⟨w.heap.size, 2, none⟩ = some (.slice A es.length cap)) := Lib.hid fun w' hb =>
    ⟨(hb.cell (p := ⟨w.heap.size, 0, none⟩) (by show w.heap.size < _; omega)).trans L0.out, (hb.cell (p := ⟨w.heap.size, 1, none⟩) (by show w.heap.size < _; omega)).trans L1.out, (hb.cell (p := ⟨w.heap.size, 2, none⟩) (by show w.heap.size < _; omega)).trans L2.out⟩
  clear hW bx L0 L1 L2
  refine (implIsCore_any _ (g1, N, es) W (HA.out W ((Below.refl W.heap.size W).mono (by omega)))).mono ?_
  rintro e w2 ⟨rfl, b2⟩
  have hs2 := b2.size
  have B2 : Hid (Below (w.heap.size + 1) W w2) := Lib.hid (b2.mono (by omega))
  have HOU2 := Lib.hid ((OwnL.keep HOU.out EG.stable fun b _ hlt => b2.block b (by omega)).widen (Nat.le_refl _) (show w.heap.size + 1 + 1 ≤ w2.heap.size by omega))
  clear b2
  rcases ec : coreB (g1, N, es) with _ | _
  · have F : Hid (quotF (g1, N, es) = []) := Lib.hid (by unfold quotF; rw [ec]; rfl)
    have HOF := Lib.hid (OwnL.widen HOU2.out (show w.heap.size ≤ w.heap.size + 1 by omega) (Nat.le_refl _))
    have HBF : Hid (Below w.heap.size w w2) := Lib.hid (BX.out.trans (B2.out.mono (by omega)))
    clear ec
    go_wp2
    go_ret
    rw [F.out]
    exact ⟨_, rfl, HOF.out, HBF.out⟩
  have hfold : foldB (g1, N, es) = true := by have h := ec; unfold coreB at h; simp only [Bool.and_eq_true] at h; exact h.1.1
  have hgr := (foldB_parts hfold).1
  have HGR := Lib.hid hgr
  obtain ⟨h13, h40, h120, _⟩ := grB_parts hgr
  simp only at h13 h40 h120
  obtain ⟨n, rfl⟩ : ∃ n : Nat, N = (n : Int) := ⟨N.toNat, by omega⟩
  have F : Hid (quotF (g1, (n : Int), es) = quoU (g1, (n : Int), es) n) := Lib.hid (by unfold quotF; rw [if_pos ec]; rfl)
  have HUL := Lib.hid (quoU_len (g1, (n : Int), es))
  clear ec hfold hgr
  go_wp2
  go_loopw [3, 4] (fun out i wr => ∃ u : Nat, u ≤ n ∧ i = .int .i64 u ∧ OGS (w.heap.size + 1) wr.heap.size out (quoU (g1, (n : Int), es) u) wr ∧ Below (w.heap.size + 1) W wr) (fun _ i _ => n - (intOf i).toNat)
  case atStart => exact ⟨0, Nat.zero_le _, rfl, HOU2.out, B2.out⟩
  case round =>
    obtain ⟨u, hu, rfl, ho, hb⟩ := hrel
    have HO1 := Lib.hid ho
    have HB1 := Lib.hid hb
    obtain ⟨wi, rfl⟩ : ∃ wi : World, wi = wr := ⟨_, rfl⟩
    clear ho hb
    have hwi := HB1.out.size
    obtain ⟨q0, q1, q2⟩ := HCL.out wi HB1.out
    by_cases hlt : u < n
    · have huI : (u : Int) < (n : Int) := by omega
      have HO3 := Lib.hid HO1.out
      have HB3 := Lib.hid HB1.out
      go_wp2
      clear q0 q1 q2
      go_loopw [3, 5] (fun out i wr => ∃ m : Nat, u < m ∧ m ≤ n ∧ i = .int .i64 m ∧ OGS (w.heap.size + 1) wr.heap.size out (quoV (g1, (n : Int), es) u (quoU (g1, (n : Int), es) u) (m - (u + 1))) wr ∧ Below (w.heap.size + 1) W wr) (fun _ i _ => n - (intOf i).toNat)
      case atStart => exact ⟨u + 1, by omega, by omega, by go_num, by rw [Nat.sub_self]; exact HO3.out, HB3.out⟩
      case round =>
        obtain ⟨m, hum, hmn, rfl, ho, hb⟩ := hrel
        have HO := Lib.hid ho
        have HB := Lib.hid hb
        obtain ⟨wj, rfl⟩ : ∃ wj : World, wj = wr := ⟨_, rfl⟩
        clear ho hb
        have hwj := HB.out.size
        have hwj2 : w.heap.size + 1 ≤ wj.heap.size := by omega
        obtain ⟨q0, q1, q2⟩ := HCL.out wj HB.out
        by_cases hlt2 : m < n
        · have hmI : (m : Int) < (n : Int) := by omega
          have HST := Lib.hid (quoV_step (g1, (n : Int), es) u (quoU (g1, (n : Int), es) u) m hum)
          have HLV := Lib.hid (quoV_len (g1, (n : Int), es) u (quoU (g1, (n : Int), es) u) (m - (u + 1)))
          generalize quoV (g1, (n : Int), es) u (quoU (g1, (n : Int), es) u) (m - (u + 1)) = LO at *
          have hlo : LO.length ≤ 1073741824 := by have h1 := HLV.out; have h2 := HUL.out u; have h3 : u * n ≤ 40 * 40 := Nat.mul_le_mul (by omega) (by omega); simp only [Int.toNat_natCast] at h2; omega
          have hfm : 0 ≤ (u : Int) ∧ (u : Int) < (m : Int) ∧ (m : Int) < (n : Int) := by omega
          have HGM := Lib.hid (grB_merG (g := (g1, (n : Int), es)) (f := ((u : Int), (m : Int))) HGR.out hfm)
          go_wp2_with fail
          refine (implMergeVertices_any _ (g1, (n : Int), es) ((u : Int), (m : Int)) wj (HA.out wj HB.out) HGR.out hfm).mono ?_
          rintro e w5 ⟨r5, rfl, o5, b5⟩
          generalize merG (g1, (n : Int), es) ((u : Int), (m : Int)) = M at *
          obtain ⟨m1, m2, ms⟩ := M
          have HM5 := Lib.hid o5
          obtain ⟨s5, rfl, _, _, oe5⟩ := o5
          obtain ⟨A5, c5, rfl, _⟩ := oe5.form
          have hs5 := b5.size
          have B5 := Lib.hid (HB.out.trans (b5.mono (by omega)))
          have BJ5 := Lib.hid b5
          simp only at *
          clear oe5 b5 q0 q1 q2
          have bX : Below w5.heap.size w5 (w5.alloc (Obj.cells #[Value.int IntKind.i64 m1, Value.int IntKind.i64 m2, .slice A5 ms.length c5] 30)) := (Below.refl _ _).alloc (Nat.le_refl _) _
          have hsX := bX.size
          have BX5 := Lib.hid bX
          go_wp2_with fail
          refine (implCoreGraph_any _ (m1, m2, ms) _ (HM5.out.arg.below bX) HGM.out).mono ?_
          rintro e w6 ⟨r6, rfl, o6, b6⟩
          generalize coreG (m1, m2, ms) = K at *
          obtain ⟨k1, k2, ks⟩ := K
          have HK6 := Lib.hid o6
          obtain ⟨s6, rfl, hj1, hj2, oe6⟩ := o6
          obtain ⟨A6, c6, rfl, _⟩ := oe6.form
          have hs6 := b6.size
          have BJ6 := Lib.hid (BJ5.out.trans ((bX.trans (b6.mono hsX)).mono hs5))
          simp only at *
          have OE6 := Lib.hid oe6
          clear oe6 b6 bX
          have hz6 := BJ6.out.size
          have bY : Below w6.heap.size w6 (w6.alloc (Obj.cells #[Value.int IntKind.i64 k1, Value.int IntKind.i64 k2, .slice A6 ks.length c6] 30)) := (Below.refl _ _).alloc (Nat.le_refl _) _
          have BJY := Lib.hid (BJ6.out.trans (bY.mono hz6))
          have HOY := Lib.hid ((OwnL.keep HO.out EG.stable fun b _ hlt => BJY.out.block b hlt).widen (Nat.le_refl _) BJY.out.size)
          obtain ⟨Ao, co, hov, _⟩ := OwnL.len HO.out
          subst hov
          go_wp2_with fail
          obtain ⟨WY, hWY⟩ : ∃ W, W = w6.alloc (Obj.cells #[Value.int IntKind.i64 k1, Value.int IntKind.i64 k2, .slice A6 ks.length c6] 30) := ⟨_, rfl⟩
          have y0 : Hid (WY.cell? ⟨w6.heap.size, 0, none⟩ = some (.int .i64 k1)) := Lib.hid (by rw [hWY]; simp [go_sem])
          have y1 : Hid (WY.cell? ⟨w6.heap.size, 1, none⟩ = some (.int .i64 k2)) := Lib.hid (by rw [hWY]; simp [go_sem])
          have y2 : Hid (WY.cell? ⟨w6.heap.size, 2, none⟩ = some (.slice A6 ks.length c6)) := Lib.hid (by rw [hWY]; simp [go_sem])
          have hsY : WY.heap.size = w6.heap.size + 1 := by rw [hWY]; simp
          rw [← hWY] at bY BJY HOY ⊢
          clear hWY
          refine (implIsListed_any _ _ LO (k1, k2, ks) WY (OGS.arg HOY.out) (HK6.out.arg.below bY)).mono ?_
          rintro e w7 ⟨rfl, b7⟩
          have hs7 := b7.size
          have z0 := (b7.cell (p := ⟨w6.heap.size, 0, none⟩) (by show w6.heap.size < _; omega)).trans y0.out
          have z1 := (b7.cell (p := ⟨w6.heap.size, 1, none⟩) (by show w6.heap.size < _; omega)).trans y1.out
          have z2 := (b7.cell (p := ⟨w6.heap.size, 2, none⟩) (by show w6.heap.size < _; omega)).trans y2.out
          have BJ7 := Lib.hid (BJY.out.trans (b7.mono BJY.out.size))
          have OE7 := Lib.hid ((OE6.out.below bY).below b7)
          clear b7 bY
          rcases ei : inG LO (k1, k2, ks) with _ | _
          · have HAD : Hid (addG LO (k1, k2, ks) = LO ++ [(k1, k2, ks)]) := Lib.hid (by unfold addG; rw [ei]; rfl)
            clear ei
            go_wp2_with (at_builtin; refine push_graph rfl (.tmp 42) (.tmp 44) rfl HO.out hwj2 (BJ7.out.alloc BJ7.out.size _) rfl _ (.slice A6 ks.length c6) (k1, k2, ks) rfl (OE7.out.alloc _) hj1 hj2 (by omega) (gr_lit _ _ rfl _ _ _ _) rfl hlo ?_; intro v8 w8 o8 g8; have O8 := Lib.hid o8; have B8 : Hid (Below (w.heap.size + 1) W w8) := Lib.hid ((HB.out.trans ((BJ7.out.alloc BJ7.out.size (Obj.cells #[Value.int IntKind.i64 k1, Value.int IntKind.i64 k2, .slice A6 ks.length c6] 30)).mono hwj2)).grown g8 (by have := BJ7.out.size; simp <;> omega) (fun c hc => (HO.out.lt hc).1)); clear o8 g8)
            go_roundw
            case rel => exact ⟨m + 1, by omega, by omega, by go_num, by rw [HST.out, HAD.out]; exact O8.out, B8.out⟩
            case measure => simp [intOf]; omega
          · have HAD : Hid (addG LO (k1, k2, ks) = LO) := Lib.hid (by unfold addG; rw [ei]; rfl)
            have HO7 := Lib.hid ((OwnL.keep HO.out EG.stable fun b _ hlt => BJ7.out.block b hlt).widen (Nat.le_refl _) BJ7.out.size)
            have HB7 := Lib.hid (HB.out.trans (BJ7.out.mono hwj2))
            clear ei z0 z1 z2
            go_wp2
            go_roundw
            case rel => exact ⟨m + 1, by omega, by omega, by go_num, by rw [HST.out, HAD.out]; exact HO7.out, HB7.out⟩
            case measure => simp [intOf]; omega
        · obtain rfl : m = n := by omega
          have HQU : Hid (quoU (g1, (m : Int), es) (u + 1) = quoV (g1, (m : Int), es) u (quoU (g1, (m : Int), es) u) (m - (u + 1))) := Lib.hid rfl
          go_wp2
          go_roundw
          case rel => exact ⟨u + 1, by omega, by go_num, by rw [HQU.out]; exact HO.out, HB.out⟩
          case measure => simp [intOf]; omega
    · obtain rfl : u = n := by omega
      obtain ⟨Ao, co, hov, _⟩ := OwnL.len HO1.out
      subst hov
      have HOF := Lib.hid (OwnL.widen HO1.out (show w.heap.size ≤ w.heap.size + 1 by omega) (Nat.le_refl _))
      have HBF : Hid (Below w.heap.size w wi) := Lib.hid (BX.out.trans (HB1.out.mono (by omega)))
      go_wp2
      go_ret
      rw [F.out]
      exact ⟨_, rfl, HOF.out, HBF.out⟩
end Go.Proofs.YtgifhaadfmomcaaGreat
