/- RootsIn of the reference and of the program. -/
import Derived.Test.YtbflljcafbneaaaGreatUpI
import Derived.Test.YtbflljcafbneaaaGreatPowI
import Derived.Test.YtbflljcafbneaaaGreatRankS
import Derived.Test.YtbflljcafbneaaaGreatCoreI
namespace Go.Proofs.YtbflljcafbneaaaGreat
set_option maxRecDepth 20000
set_option linter.unusedVariables false
set_option linter.unusedSimpArgs false
open Go.RowKit

def rootZ (g : GrD) (x : List Int) : Bool := decide (1 < powF g x)
def rootsF (g : GrD) (m : Int) : List (List Int) := if coreB g && inB m 0 3 then (uptW (lettersL g.1.toNat) m.toNat).filter (rootZ g) else []
set_option maxHeartbeats 1000000 in
theorem specRootsIn_any (v : Value) (g : GrD) (m : Int) (w : World) (h : ArgG w v g) :
    Calls Tryz.prog 5 #[v, .int .i64 m] w fun e w' => ∃ o, e = .returned o ∧ OwII w.heap.size w'.heap.size o (rootsF g m) w' ∧ Below w.heap.size w w' := by
  have HG := Lib.hid h
  have HCB : Hid (coreB g = true → inB g.1 1 3 = true) := Lib.hid fun hc => inB_iff.2 (grB_parts (coreB_grB hc)).1
  obtain ⟨s, rfl, hi1, hi2, ha⟩ := h
  obtain ⟨A, cap, rfl⟩ := ha.form
  obtain ⟨g1, N, es⟩ := g
  simp only at *
  clear ha
  go_enter Tryz.func5, Tryz.ntmps5
  have bx : Below w.heap.size w ((w.alloc (Obj.cells #[Value.int IntKind.i64 g1, Value.int IntKind.i64 N, .slice A es.length cap] 30)).alloc (.cells #[] 44)) := (by repeat (first | exact Below.refl _ _ | (refine Below.setCell ?_ (by first | omega | (simp <;> omega)) _) | (refine bel_drewN ?_ _) | (refine Below.drew ?_) | (refine Below.alloc ?_ (by first | omega | (simp <;> omega)) _)))
  have HOU : Hid (OwII (w.heap.size + 1) (w.heap.size + 2) (.slice (some ⟨w.heap.size + 1, 0, none⟩) 0 0) [] ((w.alloc (Obj.cells #[Value.int IntKind.i64 g1, Value.int IntKind.i64 N, .slice A es.length cap] 30)).alloc (.cells #[] 44))) := Lib.hid (by
    have := OwII_lit (lo := w.heap.size + 1) (w.alloc (Obj.cells #[Value.int IntKind.i64 g1, Value.int IntKind.i64 N, .slice A es.length cap] 30)) (by simp)
    simpa using this)
  go_wp2_with fail
  obtain ⟨W, hW⟩ : ∃ W, W = (w.alloc (Obj.cells #[Value.int IntKind.i64 g1, Value.int IntKind.i64 N, .slice A es.length cap] 30)).alloc (.cells #[] 44) := ⟨_, rfl⟩
  rw [← hW] at bx HOU ⊢
  have hsW : W.heap.size = w.heap.size + 2 := by rw [hW]; simp
  have L0 : Hid (W.cell? ⟨w.heap.size, 0, none⟩ = some (.int .i64 g1)) := Lib.hid (by rw [hW]; simp [go_sem])
  have L1 : Hid (W.cell? ⟨w.heap.size, 1, none⟩ = some (.int .i64 N)) := Lib.hid (by rw [hW]; simp [go_sem])
  have L2 : Hid (W.cell? ⟨w.heap.size, 2, none⟩ = some (.slice A es.length cap)) := Lib.hid (by rw [hW]; simp [go_sem])
  have BX := Lib.hid bx
  have HA : Hid (∀ w', Below W.heap.size W w' → ArgG w' (.agg #[.int .i64 g1, .int .i64 N, .slice A es.length cap]) (g1, N, es)) := Lib.hid fun w' hb => HG.out.below (BX.out.trans (hb.mono BX.out.size))
  clear hW bx
  refine (specWholeGroup_any g1 W hi1).mono ?_
  rintro e w1 ⟨hno, hyes, b1⟩
  obtain ⟨x, y, A', n', c', bb, rfl, hbb0, hag⟩ : ∃ (x y : Int) (A' : Option Addr) (n' c' : Nat) (bb : Bool), e = .returned (.tuple #[.agg #[.int .i64 x, .int .i64 y, .slice A' n' c'], .bool bb]) ∧ bb = inB g1 1 3 ∧ (bb = true → ArgG w1 (.agg #[.int .i64 x, .int .i64 y, .slice A' n' c']) (wholeG g1.toNat)) := by
    rcases e0 : inB g1 1 3 with _ | _
    · obtain ⟨r, rfl, rfl⟩ := hno e0
      exact ⟨_, _, _, _, _, _, rfl, rfl, fun h => by cases h⟩
    · obtain ⟨r, rfl, h⟩ := hyes e0
      have h' := h
      obtain ⟨s, rfl, _, _, ha⟩ := h
      obtain ⟨As, cs, rfl⟩ := ha.form
      exact ⟨_, _, _, _, _, _, rfl, rfl, fun _ => h'⟩
  have HAG := Lib.hid hag
  have hbb := Lib.hid hbb0
  have B1 := Lib.hid b1
  have hs1 := b1.size
  clear hno hyes hag b1 hbb0
  have bz : Below w1.heap.size w1 (w1.alloc (Obj.cells #[Value.int IntKind.i64 x, Value.int IntKind.i64 y, .slice A' n' c'] 30)) := (Below.refl _ _).alloc (Nat.le_refl _) _
  have q0 := (B1.out.cell (p := ⟨w.heap.size, 0, none⟩) (by show w.heap.size < _; omega)).trans L0.out
  have q1 := (B1.out.cell (p := ⟨w.heap.size, 1, none⟩) (by show w.heap.size < _; omega)).trans L1.out
  have q2 := (B1.out.cell (p := ⟨w.heap.size, 2, none⟩) (by show w.heap.size < _; omega)).trans L2.out
  have q0' := (bz.cell (p := ⟨w.heap.size, 0, none⟩) (by show w.heap.size < _; omega)).trans q0
  have q1' := (bz.cell (p := ⟨w.heap.size, 1, none⟩) (by show w.heap.size < _; omega)).trans q1
  have q2' := (bz.cell (p := ⟨w.heap.size, 2, none⟩) (by show w.heap.size < _; omega)).trans q2
  go_wp2_with fail
  obtain ⟨W2, hW2⟩ : ∃ W, W = w1.alloc (Obj.cells #[Value.int IntKind.i64 x, Value.int IntKind.i64 y, .slice A' n' c'] 30) := ⟨_, rfl⟩
  rw [← hW2] at bz ⊢
  have hsW2 : W2.heap.size = w1.heap.size + 1 := by rw [hW2]; simp
  have M0 : Hid (W2.cell? ⟨w1.heap.size, 0, none⟩ = some (.int .i64 x)) := Lib.hid (by rw [hW2]; simp [go_sem])
  have M1 : Hid (W2.cell? ⟨w1.heap.size, 1, none⟩ = some (.int .i64 y)) := Lib.hid (by rw [hW2]; simp [go_sem])
  have M2 : Hid (W2.cell? ⟨w1.heap.size, 2, none⟩ = some (.slice A' n' c')) := Lib.hid (by rw [hW2]; simp [go_sem])
  have B2 : Hid (Below W.heap.size W W2) := Lib.hid (B1.out.trans (bz.mono hs1))
  have HAG2 : Hid (bb = true → ArgG W2 (.agg #[.int .i64 x, .int .i64 y, .slice A' n' c']) (wholeG g1.toNat)) := Lib.hid fun h => (HAG.out h).below bz
  clear hW2 bz q0 q1 q2 q0' q1' q2' HAG B1
  refine (specIsSubgroup_any _ (g1, N, es) W2 (HA.out _ B2.out)).mono ?_
  rintro e w3 ⟨rfl, b3⟩
  have hs3 := b3.size
  have B3 : Hid (Below W.heap.size W w3) := Lib.hid (B2.out.trans (b3.mono B2.out.size))
  have HO3 : Hid (OwII (w.heap.size + 1) (w.heap.size + 2) (.slice (some ⟨w.heap.size + 1, 0, none⟩) 0 0) [] w3) := Lib.hid (OwnL.keep HOU.out EI.stable fun b h1 h2 => B3.out.block b (by omega))
  have HB3 : Hid (Below w.heap.size w w3) := Lib.hid (BX.out.trans (B3.out.mono BX.out.size))
  have m0 := (b3.cell (p := ⟨w1.heap.size, 0, none⟩) (by show w1.heap.size < _; omega)).trans M0.out
  have m1 := (b3.cell (p := ⟨w1.heap.size, 1, none⟩) (by show w1.heap.size < _; omega)).trans M1.out
  have m2 := (b3.cell (p := ⟨w1.heap.size, 2, none⟩) (by show w1.heap.size < _; omega)).trans M2.out
  have HAG3 : Hid (bb = true → ArgG w3 (.agg #[.int .i64 x, .int .i64 y, .slice A' n' c']) (wholeG g1.toNat)) := Lib.hid fun h => (HAG2.out h).below b3
  clear b3 HAG2 M0 M1 M2
  rcases ec : coreB (g1, N, es) with _ | _
  · have F : Hid (rootsF (g1, N, es) m = []) := Lib.hid (by unfold rootsF; rw [ec]; rfl)
    clear ec
    go_wp2
    go_ret
    rw [F.out]
    exact ⟨_, rfl, OwnL.widen HO3.out (by omega) (by omega), HB3.out⟩
  obtain rfl : bb = true := by rw [hbb.out]; exact HCB.out ec
  rcases e2 : inB m 0 3 with _ | _
  · have F : Hid (rootsF (g1, N, es) m = []) := Lib.hid (by unfold rootsF; rw [ec, e2]; rfl)
    have HM := Lib.hid e2
    clear ec e2
    go_wp2_with (go_at_call 16; refine (l1In_any _ _ _ _).mono ?_; rintro e w' ⟨rfl, rfl⟩; rw [HM.out])
    go_ret
    rw [F.out]
    exact ⟨_, rfl, OwnL.widen HO3.out (by omega) (by omega), HB3.out⟩
  have hr13 := inB_iff.1 (HCB.out ec)
  have hm4 := inB_iff.1 e2
  obtain ⟨rk, rfl⟩ : ∃ rk : Nat, g1 = (rk : Int) := ⟨g1.toNat, by omega⟩
  obtain ⟨mm, rfl⟩ : ∃ k : Nat, m = (k : Int) := ⟨m.toNat, by omega⟩
  obtain ⟨L, hL⟩ : ∃ L, L = uptW (lettersL rk) mm := ⟨_, rfl⟩
  have F : Hid (rootsF ((rk : Int), N, es) mm = L.filter (rootZ ((rk : Int), N, es))) := Lib.hid (by unfold rootsF; rw [ec, e2, Int.toNat_natCast, Int.toNat_natCast, hL]; rfl)
  have HW : Hid (∀ x ∈ L, x.length ≤ 4) := Lib.hid fun x hx => by rw [hL] at hx; have := uptW_word (r := rk) (by omega) (by omega) (n := mm) (by omega) x hx; omega
  have HLL : Hid (L.length ≤ 1073741824) := Lib.hid (by
    rw [hL]
    have := uptW_len (lettersL rk) (by rw [lettersL_len]; omega) mm
    have h2 : 6 ^ (mm + 1) ≤ 6 ^ 5 := Nat.pow_le_pow_right (by omega) (by omega)
    omega)
  have HAG4 := Lib.hid (HAG3.out rfl)
  rw [Int.toNat_natCast] at HAG4
  have HLW : Hid (∀ (v : Value) (W : World), ArgG W v (wholeG rk) → Calls Tryz.prog 17 #[v, .int .i64 0, .int .i64 mm] W fun e w' => ∃ r, e = .returned r ∧ OwII W.heap.size w'.heap.size r L w' ∧ Below W.heap.size W w') := Lib.hid fun v W hg => by
    have := specLoopWords_any v (wholeG rk) 0 mm W hg (whole_fold (by omega) (by omega)) ⟨by decide, by show (0 : Int) < 1; decide⟩ (by omega)
    rw [show (wholeG rk).1.toNat = rk from Int.toNat_natCast rk, show (wholeG rk).2.2 = wholeE rk from rfl, whole_loops (by omega), ← hL] at this
    exact this
  have HM := Lib.hid e2
  clear hL ec e2 HAG3
  go_wp2_with (go_at_call 16; refine (l1In_any _ _ _ _).mono ?_; rintro e w' ⟨rfl, rfl⟩; rw [HM.out])
  refine (HLW.out _ _ HAG4.out).mono ?_
  rintro e w4 ⟨rl, rfl, ol, b4⟩
  obtain ⟨Al, cl_, rfl, hcl, hml, _⟩ := OwnL.len ol
  have hs4 := b4.size
  have B4 : Hid (Below W.heap.size W w4) := Lib.hid (B3.out.trans (b4.mono B3.out.size))
  have HF0 : Hid (OwFil EI 44 1 (w.heap.size + 1) w4.heap.size w4 (.slice Al L.length cl_) L (.slice (some ⟨w.heap.size + 1, 0, none⟩) 0 0) (rootZ ((rk : Int), N, es)) 0) := Lib.hid
    (fil_start (ol.widen (show w.heap.size + 2 ≤ _ by omega) (Nat.le_refl _)) (OwnL.keep HO3.out EI.stable fun b h1 h2 => b4.block b (by omega)) (by omega) (by omega))
  have HB4 : Hid (Below W.heap.size W w4 ∧ Below w.heap.size w w4) := Lib.hid ⟨B4.out, BX.out.trans (B4.out.mono BX.out.size)⟩
  unfold maxLen at hml
  have hll := HLL.out
  clear ol b4 m0 m1 m2 HAG4 HLW HO3 HM
  go_wp2
  go_loopw [5, 9] (fun out i wr => ∃ k : Nat, k ≤ L.length ∧ i = .int .i64 k ∧ OwFil EI 44 1 (w.heap.size + 1) wr.heap.size wr (.slice Al L.length cl_) L out (rootZ ((rk : Int), N, es)) k ∧ Below (w.heap.size + 1) W wr) (fun _ i _ => L.length - (intOf i).toNat)
  case atStart => exact ⟨0, Nat.zero_le _, rfl, HF0.out, B4.out.mono (by omega)⟩
  case round =>
    obtain ⟨k, hk, rfl, hf, hb⟩ := hrel
    have HFI := Lib.hid hf
    have HB := Lib.hid hb
    obtain ⟨wi, rfl⟩ : ∃ wi : World, wi = wr := ⟨_, rfl⟩
    clear hf hb
    have hwi := HB.out.size
    by_cases hlt : k < L.length
    · obtain ⟨g, A1, c1, rfl, hcell, h1, h2, hrd⟩ := fil_row HFI.out hlt
      have HRD := Lib.hid hrd
      have hx4 := HW.out L[k] (List.getElem_mem hlt)
      have q0 := (HB.out.cell (p := ⟨w.heap.size, 0, none⟩) (by show w.heap.size < w.heap.size + 1; omega)).trans L0.out
      have q1 := (HB.out.cell (p := ⟨w.heap.size, 1, none⟩) (by show w.heap.size < w.heap.size + 1; omega)).trans L1.out
      have q2 := (HB.out.cell (p := ⟨w.heap.size, 2, none⟩) (by show w.heap.size < w.heap.size + 1; omega)).trans L2.out
      have HIS := Lib.hid (fun W' (hh : Below wi.heap.size wi W') => specPowerIn_any (.agg #[.int .i64 rk, .int .i64 N, .slice A es.length cap]) (.slice A1 L[k].length c1) ((rk : Int), N, es) L[k] W' (HG.out.below (BX.out.trans ((HB.out.trans (hh.mono (by omega))).mono (by omega)))) (HRD.out.below hh) (by omega))
      have HSK := Lib.hid (fun W (h : OwFil EI 44 1 (w.heap.size + 1) W.heap.size W (.slice (some ⟨g, 0, none⟩) L.length cl_) L u5 (rootZ ((rk : Int), N, es)) k) (hp : rootZ ((rk : Int), N, es) L[k] = false) => h.skip hlt hp)
      have HPS : Hid (rootZ ((rk : Int), N, es) L[k] = decide (1 < powF ((rk : Int), N, es) L[k])) := Lib.hid rfl
      have hkI : (k : Int) < (L.length : Int) := by omega
      unfold maxLen at h2
      clear hrd
      generalize powF ((rk : Int), N, es) L[k] = pw at HIS HPS
      generalize hps : rootZ ((rk : Int), N, es) L[k] = ps at HPS HSK
      have HPS2 := Lib.hid hps
      obtain ⟨ln, hln⟩ : ∃ n, n = L[k].length := ⟨_, rfl⟩
      rw [← hln] at hcell h1 hx4 HIS HRD
      clear hps hln
      have hlw : w.heap.size < wi.heap.size := by omega
      have fC := BelW.cell hcell (World.block_lt_of_cell? wi _ hcell)
      have fQ0 := BelW.cell q0 hlw
      have fQ1 := BelW.cell q1 hlw
      have fQ2 := BelW.cell q2 hlw
      rcases e5 : decide ((1 : Int) < pw) with _ | _
      · have HP := HPS.out
        rw [e5] at HP
        subst HP
        go_wp2_with fail
        (refine wp_region_quiet_bel (by kernel_rfl) (by kernel_rfl) ?_; (repeat (go_big_quiet_step (first | (go_at_call 18; exact Calls.bel_of (HIS.out _ (BelW.h _)))))); refine wpQuiet_nil ?_; intro wz hw'; obtain ⟨pq, hw''⟩ := hw'; have bz := pq.h; rw [← hw''] at bz; clear hw'' pq)
        have HF3 := Lib.hid (HFI.out.below EI.stable bz)
        have HB3 := Lib.hid (HB.out.trans (bz.mono (by omega)))
        have HF4 := Lib.hid (HSK.out wz HF3.out (by first | trivial | rfl))
        clear bz hcell q0 q1 q2 fC fQ0 fQ1 fQ2
        go_wp2
        go_roundw
        case rel => exact ⟨k + 1, by omega, by go_num, HF4.out, HB3.out⟩
        case measure => simp [intOf]; omega
      · have HP := HPS.out
        rw [e5] at HP
        subst HP
        go_wp2_with fail
        (refine wp_region_quiet_bel (by kernel_rfl) (by kernel_rfl) ?_; (repeat (go_big_quiet_step (first | (go_at_call 18; exact Calls.bel_of (HIS.out _ (BelW.h _)))))); refine wpQuiet_nil ?_; intro wz hw'; obtain ⟨pq, hw''⟩ := hw'; have bz := pq.h; rw [← hw''] at bz; clear hw'' pq)
        have HF3 := Lib.hid (HFI.out.below EI.stable bz)
        have HB3 := Lib.hid (HB.out.trans (bz.mono (by omega)))
        have hc3 := (bz.cell (p := ⟨g, k, none⟩) (World.block_lt_of_cell? wi _ hcell)).trans hcell
        have hw3 : w.heap.size ≤ wz.heap.size := by have := bz.size; omega
        have hw4 : w.heap.size + 1 ≤ wz.heap.size := by have := bz.size; omega
        clear bz hcell q0 q1 q2 fC fQ0 fQ1 fQ2
        go_wp2_with (at_builtin; refine push_fil_ints rfl (.tmp 46) (.tmp 51) rfl HF3.out hw4 ((Below.refl _ _).alloc (Nat.le_refl _) (.cells #[.slice A1 ln c1] 44)) rfl hlt HPS2.out wz.heap.size g L.length cl_ rfl rfl (.slice A1 ln c1) rfl (cell_new1 _ _ _) hc3 hll ?_; intro v4 w4 o4 g4; have HF4 := Lib.hid o4; have HB4 := Lib.hid (HB3.out.trans ((((Below.refl (w.heap.size + 1) wz).alloc hw4 (.cells #[.slice A1 ln c1] 44)).grown g4 (by simp; omega) (fun b hb => (HF3.out.lt hb).1)))); clear o4 g4)
        go_roundw
        case rel => exact ⟨k + 1, by omega, by go_num, HF4.out, HB4.out⟩
        case measure => simp [intOf]; omega
    · obtain rfl : k = L.length := by omega
      have HFF := Lib.hid HFI.out.fin
      have HBF : Hid (Below w.heap.size w wi) := Lib.hid (BX.out.trans (HB.out.mono (by omega)))
      obtain ⟨Ao, co, hov, _⟩ := OwnL.len HFF.out
      subst hov
      go_wp2
      go_ret
      rw [F.out]
      exact ⟨_, rfl, OwnL.widen HFF.out (by omega) (Nat.le_refl _), HBF.out⟩
set_option maxHeartbeats 1000000 in
theorem implRootsIn_any (v : Value) (g : GrD) (m : Int) (w : World) (h : ArgG w v g) :
    Calls Tryz.prog 7 #[v, .int .i64 m] w fun e w' => ∃ o, e = .returned o ∧ OwII w.heap.size w'.heap.size o (rootsF g m) w' ∧ Below w.heap.size w w' := by
  have HG := Lib.hid h
  have HCB : Hid (coreB g = true → inB g.1 1 3 = true) := Lib.hid fun hc => inB_iff.2 (grB_parts (coreB_grB hc)).1
  obtain ⟨s, rfl, hi1, hi2, ha⟩ := h
  obtain ⟨A, cap, rfl⟩ := ha.form
  obtain ⟨g1, N, es⟩ := g
  simp only at *
  clear ha
  go_enter Tryz.func7, Tryz.ntmps7
  have bx : Below w.heap.size w ((w.alloc (Obj.cells #[Value.int IntKind.i64 g1, Value.int IntKind.i64 N, .slice A es.length cap] 30)).alloc (.cells #[] 44)) := (by repeat (first | exact Below.refl _ _ | (refine Below.setCell ?_ (by first | omega | (simp <;> omega)) _) | (refine bel_drewN ?_ _) | (refine Below.drew ?_) | (refine Below.alloc ?_ (by first | omega | (simp <;> omega)) _)))
  have HOU : Hid (OwII (w.heap.size + 1) (w.heap.size + 2) (.slice (some ⟨w.heap.size + 1, 0, none⟩) 0 0) [] ((w.alloc (Obj.cells #[Value.int IntKind.i64 g1, Value.int IntKind.i64 N, .slice A es.length cap] 30)).alloc (.cells #[] 44))) := Lib.hid (by
    have := OwII_lit (lo := w.heap.size + 1) (w.alloc (Obj.cells #[Value.int IntKind.i64 g1, Value.int IntKind.i64 N, .slice A es.length cap] 30)) (by simp)
    simpa using this)
  go_wp2_with fail
  obtain ⟨W, hW⟩ : ∃ W, W = (w.alloc (Obj.cells #[Value.int IntKind.i64 g1, Value.int IntKind.i64 N, .slice A es.length cap] 30)).alloc (.cells #[] 44) := ⟨_, rfl⟩
  rw [← hW] at bx HOU ⊢
  have hsW : W.heap.size = w.heap.size + 2 := by rw [hW]; simp
  have L0 : Hid (W.cell? ⟨w.heap.size, 0, none⟩ = some (.int .i64 g1)) := Lib.hid (by rw [hW]; simp [go_sem])
  have L1 : Hid (W.cell? ⟨w.heap.size, 1, none⟩ = some (.int .i64 N)) := Lib.hid (by rw [hW]; simp [go_sem])
  have L2 : Hid (W.cell? ⟨w.heap.size, 2, none⟩ = some (.slice A es.length cap)) := Lib.hid (by rw [hW]; simp [go_sem])
  have BX := Lib.hid bx
  have HA : Hid (∀ w', Below W.heap.size W w' → ArgG w' (.agg #[.int .i64 g1, .int .i64 N, .slice A es.length cap]) (g1, N, es)) := Lib.hid fun w' hb => HG.out.below (BX.out.trans (hb.mono BX.out.size))
  clear hW bx
  refine (implIsCore_any _ (g1, N, es) W (HA.out _ (Below.refl _ _))).mono ?_
  rintro e w3 ⟨rfl, b3⟩
  have hs3 := b3.size
  have B3 := Lib.hid b3
  have HO3 : Hid (OwII (w.heap.size + 1) (w.heap.size + 2) (.slice (some ⟨w.heap.size + 1, 0, none⟩) 0 0) [] w3) := Lib.hid (OwnL.keep HOU.out EI.stable fun b h1 h2 => B3.out.block b (by omega))
  have HB3 : Hid (Below w.heap.size w w3) := Lib.hid (BX.out.trans (B3.out.mono BX.out.size))
  have q0 := (b3.cell (p := ⟨w.heap.size, 0, none⟩) (by show w.heap.size < _; omega)).trans L0.out
  clear b3
  rcases ec : coreB (g1, N, es) with _ | _
  · have F : Hid (rootsF (g1, N, es) m = []) := Lib.hid (by unfold rootsF; rw [ec]; rfl)
    clear ec
    go_wp2
    go_ret
    rw [F.out]
    exact ⟨_, rfl, OwnL.widen HO3.out (by omega) (by omega), HB3.out⟩
  rcases e2 : inB m 0 3 with _ | _
  · have F : Hid (rootsF (g1, N, es) m = []) := Lib.hid (by unfold rootsF; rw [ec, e2]; rfl)
    have HM := Lib.hid e2
    clear ec e2
    go_wp2_with (go_at_call 21; refine (within_any _ _ _ _).mono ?_; rintro e w' ⟨rfl, rfl⟩; rw [HM.out])
    go_ret
    rw [F.out]
    exact ⟨_, rfl, OwnL.widen HO3.out (by omega) (by omega), HB3.out⟩
  have hr13 := inB_iff.1 (HCB.out ec)
  have hm4 := inB_iff.1 e2
  obtain ⟨rk, rfl⟩ : ∃ rk : Nat, g1 = (rk : Int) := ⟨g1.toNat, by omega⟩
  obtain ⟨mm, rfl⟩ : ∃ k : Nat, m = (k : Int) := ⟨m.toNat, by omega⟩
  obtain ⟨L, hL⟩ : ∃ L, L = uptW (lettersL rk) mm := ⟨_, rfl⟩
  have F : Hid (rootsF ((rk : Int), N, es) mm = L.filter (rootZ ((rk : Int), N, es))) := Lib.hid (by unfold rootsF; rw [ec, e2, Int.toNat_natCast, Int.toNat_natCast, hL]; rfl)
  have HW : Hid (∀ x ∈ L, x.length ≤ 4) := Lib.hid fun x hx => by rw [hL] at hx; have := uptW_word (r := rk) (by omega) (by omega) (n := mm) (by omega) x hx; omega
  have HLL : Hid (L.length ≤ 1073741824) := Lib.hid (by
    rw [hL]
    have := uptW_len (lettersL rk) (by rw [lettersL_len]; omega) mm
    have h2 : 6 ^ (mm + 1) ≤ 6 ^ 5 := Nat.pow_le_pow_right (by omega) (by omega)
    omega)
  have HLW := Lib.hid (wordsUpTo_any rk mm w3 (by omega) (by omega))
  rw [← hL] at HLW
  have HM := Lib.hid e2
  clear hL ec e2
  go_wp2_with (first | (go_at_call 21; refine (within_any _ _ _ _).mono ?_; rintro e w' ⟨rfl, rfl⟩; rw [HM.out]) | (go_at_call 22; refine HLW.out.mono ?_; rintro e w4 ⟨rl, rfl, ol, b4⟩; have OL := Lib.hid ol; obtain ⟨Al, cl_, rfl, hcl, hml, _⟩ := OwnL.len ol; have B34 := Lib.hid b4; clear ol b4))
  have hs4 := B34.out.size
  have B4 : Hid (Below W.heap.size W w4) := Lib.hid (B3.out.trans (B34.out.mono B3.out.size))
  have HF0 : Hid (OwFil EI 44 1 (w.heap.size + 1) w4.heap.size w4 (.slice Al L.length cl_) L (.slice (some ⟨w.heap.size + 1, 0, none⟩) 0 0) (rootZ ((rk : Int), N, es)) 0) := Lib.hid
    (fil_start (OL.out.widen (show w.heap.size + 2 ≤ _ by omega) (Nat.le_refl _)) (OwnL.keep HO3.out EI.stable fun b h1 h2 => B34.out.block b (by omega)) (by omega) (by omega))
  unfold maxLen at hml
  have hll := HLL.out
  clear q0 HLW HO3 HM OL
  go_loopw [5, 23] (fun out i wr => ∃ k : Nat, k ≤ L.length ∧ i = .int .i64 k ∧ OwFil EI 44 1 (w.heap.size + 1) wr.heap.size wr (.slice Al L.length cl_) L out (rootZ ((rk : Int), N, es)) k ∧ Below (w.heap.size + 1) W wr) (fun _ i _ => L.length - (intOf i).toNat)
  case atStart => exact ⟨0, Nat.zero_le _, rfl, HF0.out, B4.out.mono (by omega)⟩
  case round =>
    obtain ⟨k, hk, rfl, hf, hb⟩ := hrel
    have HFI := Lib.hid hf
    have HB := Lib.hid hb
    obtain ⟨wi, rfl⟩ : ∃ wi : World, wi = wr := ⟨_, rfl⟩
    clear hf hb
    have hwi := HB.out.size
    by_cases hlt : k < L.length
    · obtain ⟨g, A1, c1, rfl, hcell, h1, h2, hrd⟩ := fil_row HFI.out hlt
      have HRD := Lib.hid hrd
      have hx4 := HW.out L[k] (List.getElem_mem hlt)
      have q0 := (HB.out.cell (p := ⟨w.heap.size, 0, none⟩) (by show w.heap.size < w.heap.size + 1; omega)).trans L0.out
      have q1 := (HB.out.cell (p := ⟨w.heap.size, 1, none⟩) (by show w.heap.size < w.heap.size + 1; omega)).trans L1.out
      have q2 := (HB.out.cell (p := ⟨w.heap.size, 2, none⟩) (by show w.heap.size < w.heap.size + 1; omega)).trans L2.out
      have HIS := Lib.hid (implPowerIn_any (.agg #[.int .i64 rk, .int .i64 N, .slice A es.length cap]) (.slice A1 L[k].length c1) ((rk : Int), N, es) L[k] wi (HG.out.below (BX.out.trans (HB.out.mono (by omega)))) HRD.out (by omega))
      have HSK := Lib.hid (fun W (h : OwFil EI 44 1 (w.heap.size + 1) W.heap.size W (.slice (some ⟨g, 0, none⟩) L.length cl_) L u5 (rootZ ((rk : Int), N, es)) k) (hp : rootZ ((rk : Int), N, es) L[k] = false) => h.skip hlt hp)
      have HPS : Hid (rootZ ((rk : Int), N, es) L[k] = decide (1 < powF ((rk : Int), N, es) L[k])) := Lib.hid rfl
      have hkI : (k : Int) < (L.length : Int) := by omega
      unfold maxLen at h2
      clear hrd
      generalize powF ((rk : Int), N, es) L[k] = pw at HIS HPS
      generalize hps : rootZ ((rk : Int), N, es) L[k] = ps at HPS HSK
      have HPS2 := Lib.hid hps
      obtain ⟨ln, hln⟩ : ∃ n, n = L[k].length := ⟨_, rfl⟩
      rw [← hln] at hcell h1 hx4 HIS HRD
      clear hps hln
      have hlw : w.heap.size < wi.heap.size := by omega
      go_wp2_with fail
      refine HIS.out.mono ?_
      rintro e wz ⟨rfl, bz⟩
      have HF3 := Lib.hid (HFI.out.below EI.stable bz)
      have HB3 := Lib.hid (HB.out.trans (bz.mono (by omega)))
      have hc3 := (bz.cell (p := ⟨g, k, none⟩) (World.block_lt_of_cell? wi _ hcell)).trans hcell
      have hw4 : w.heap.size + 1 ≤ wz.heap.size := by have := bz.size; omega
      clear bz hcell q0 q1 q2
      rcases e5 : decide ((1 : Int) < pw) with _ | _
      · have HP := HPS.out
        rw [e5] at HP
        subst HP
        have HF4 := Lib.hid (HSK.out wz HF3.out (by first | trivial | rfl))
        go_wp2
        go_roundw
        case rel => exact ⟨k + 1, by omega, by go_num, HF4.out, HB3.out⟩
        case measure => simp [intOf]; omega
      · have HP := HPS.out
        rw [e5] at HP
        subst HP
        go_wp2_with (at_builtin; refine push_fil_ints rfl (.tmp 31) (.tmp 33) rfl HF3.out hw4 ((Below.refl _ _).alloc (Nat.le_refl _) (.cells #[.slice A1 ln c1] 44)) rfl hlt HPS2.out wz.heap.size g L.length cl_ rfl rfl (.slice A1 ln c1) rfl (cell_new1 _ _ _) hc3 hll ?_; intro v4 w4 o4 g4; have HF4 := Lib.hid o4; have HB4 := Lib.hid (HB3.out.trans ((((Below.refl (w.heap.size + 1) wz).alloc hw4 (.cells #[.slice A1 ln c1] 44)).grown g4 (by simp; omega) (fun b hb => (HF3.out.lt hb).1)))); clear o4 g4)
        go_roundw
        case rel => exact ⟨k + 1, by omega, by go_num, HF4.out, HB4.out⟩
        case measure => simp [intOf]; omega
    · obtain rfl : k = L.length := by omega
      have HFF := Lib.hid HFI.out.fin
      have HBF : Hid (Below w.heap.size w wi) := Lib.hid (BX.out.trans (HB.out.mono (by omega)))
      obtain ⟨Ao, co, hov, _⟩ := OwnL.len HFF.out
      subst hov
      go_wp2
      go_ret
      rw [F.out]
      exact ⟨_, rfl, OwnL.widen HFF.out (by omega) (Nat.le_refl _), HBF.out⟩
/-- How many ints the list holds. -/
theorem roots_bound (g : GrD) (m : Int) : (rootsF g m).length ≤ 7776 ∧ ∀ x ∈ rootsF g m, x.length ≤ 4 := by
  unfold rootsF
  split
  · rename_i h
    rw [Bool.and_eq_true] at h
    have hr13 := (grB_parts (coreB_grB h.1)).1
    have hm4 := inB_iff.1 h.2
    refine ⟨?_, fun x hx => ?_⟩
    · have h2 := List.length_filter_le (rootZ g) (uptW (lettersL g.1.toNat) m.toNat)
      have h3 := uptW_len (lettersL g.1.toNat) (by rw [lettersL_len]; omega) m.toNat
      have h4 : 6 ^ (m.toNat + 1) ≤ 6 ^ 5 := Nat.pow_le_pow_right (by omega) (by omega)
      omega
    · have := uptW_word (r := g.1.toNat) (by omega) (by omega) (n := m.toNat) (by omega) x (List.mem_filter.1 hx).1
      omega
  · exact ⟨by simp, fun x hx => by cases hx⟩
end Go.Proofs.YtbflljcafbneaaaGreat
