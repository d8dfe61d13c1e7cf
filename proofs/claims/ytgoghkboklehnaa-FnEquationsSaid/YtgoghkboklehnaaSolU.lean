/- SolutionsUpTo of the reference and of the program. -/
import Derived.Test.YtgoghkboklehnaaUpI
import Derived.Test.YtgoghkboklehnaaSol
namespace Go.Proofs.Ytgoghkboklehnaa
set_option maxRecDepth 20000
set_option linter.unusedVariables false
set_option linter.unusedSimpArgs false
open Go.RowKit

def solZ (es x : List Int) : Bool := decide ((substF es x).length = 0)
def solsF (r : Int) (es : List Int) (m : Int) : List (List Int) × Bool :=
  if eqB r es && inB m 0 4 then ((uptW (lettersL r.toNat) m.toNat).filter (solZ es), true) else ([], false)
set_option maxHeartbeats 1000000 in
theorem specSolutionsUpTo_any (r m : Int) (u : Value) (es : List Int) (w : World) (h : RdI w u es) (he : es.length ≤ 1048576) :
    Calls Try.prog 7 #[.int .i64 r, u, .int .i64 m] w fun e w' => ∃ o, e = .returned (.tuple #[o, .bool (solsF r es m).2]) ∧ OwII w.heap.size w'.heap.size o (solsF r es m).1 w' ∧ Below w.heap.size w w' := by
  have HE := Lib.hid h
  obtain ⟨A, cap, rfl, _⟩ := h.arg
  clear h
  have HO0 := Lib.hid (OwII_lit w (lo := w.heap.size) (Nat.le_refl _))
  have bx : Below w.heap.size w (w.alloc (.cells #[] 24)) := (by repeat (first | exact Below.refl _ _ | (refine Below.setCell ?_ (by first | omega | (simp <;> omega)) _) | (refine bel_drewN ?_ _) | (refine Below.drew ?_) | (refine Below.alloc ?_ (by first | omega | (simp <;> omega)) _)))
  have hs0 : (w.alloc (.cells #[] 24)).heap.size = w.heap.size + 1 := by simp
  have HE1 := Lib.hid (HE.out.below bx)
  have hq := specIsEquation_any r (.slice A es.length cap) es (w.alloc (.cells #[] 24)) HE1.out.arg (by omega)
  have BX := Lib.hid bx
  clear bx
  rcases e1 : eqB r es with _ | _
  · rw [e1] at hq
    have HQ := Lib.hid hq
    have F : Hid (solsF r es m = ([], false)) := Lib.hid (by unfold solsF; rw [e1]; rfl)
    clear hq e1
    go_enter Try.func7, Try.ntmps7
    go_wp2_with (go_at_call 10; refine HQ.out.mono ?_; rintro e w' ⟨rfl, rfl⟩)
    go_ret2
    rw [F.out]
    exact ⟨_, rfl, by rw [hs0]; exact HO0.out, BX.out⟩
  rw [e1] at hq
  have HQ := Lib.hid hq
  clear hq
  rcases e2 : inB m 0 4 with _ | _
  · have F : Hid (solsF r es m = ([], false)) := Lib.hid (by unfold solsF; rw [e1, e2]; rfl)
    have HM := Lib.hid e2
    clear e1 e2
    go_enter Try.func7, Try.ntmps7
    go_wp2_with (first | (go_at_call 10; refine HQ.out.mono ?_; rintro e w' ⟨rfl, rfl⟩) | (go_at_call 33; refine (l1In_any _ _ _ _).mono ?_; rintro e w' ⟨rfl, rfl⟩; rw [HM.out]))
    go_ret2
    rw [F.out]
    exact ⟨_, rfl, by rw [hs0]; exact HO0.out, BX.out⟩
  have hr13 := inB_iff.1 (eqB_rank e1)
  have hm4 := inB_iff.1 e2
  have HR := Lib.hid (eqB_rank e1)
  obtain ⟨rk, rfl⟩ : ∃ rk : Nat, r = (rk : Int) := ⟨r.toNat, by omega⟩
  obtain ⟨mm, rfl⟩ : ∃ k : Nat, m = (k : Int) := ⟨m.toNat, by omega⟩
  obtain ⟨L, hL⟩ : ∃ L, L = uptW (lettersL rk) mm := ⟨_, rfl⟩
  have F : Hid (solsF rk es mm = (L.filter (solZ es), true)) := Lib.hid (by unfold solsF; rw [e1, e2, Int.toNat_natCast, Int.toNat_natCast, hL]; rfl)
  have HW : Hid (∀ x ∈ L, wordB rk x = true ∧ x.length ≤ 4) := Lib.hid fun x hx => by rw [hL] at hx; have := uptW_word (r := rk) (by omega) (by omega) (n := mm) (by omega) x hx; exact ⟨this.1, by omega⟩
  have HLL : Hid (L.length ≤ 1073741824) := Lib.hid (by
    rw [hL]
    have := uptW_len (lettersL rk) (by rw [lettersL_len]; omega) mm
    have h2 : 6 ^ (mm + 1) ≤ 6 ^ 5 := Nat.pow_le_pow_right (by omega) (by omega)
    omega)
  have HLW : Hid (∀ (v : Value) (W : World), ArgG W v (wholeG rk) → Calls Try.prog 35 #[v, .int .i64 0, .int .i64 mm] W fun e w' => ∃ r, e = .returned r ∧ OwII W.heap.size w'.heap.size r L w' ∧ Below W.heap.size W w') := Lib.hid fun v W hg => by
    have := specLoopWords_any v (wholeG rk) 0 mm W hg (whole_fold (by omega) (by omega)) ⟨by decide, by show (0 : Int) < 1; decide⟩ (by omega)
    rw [show (wholeG rk).1.toNat = rk from Int.toNat_natCast rk, show (wholeG rk).2.2 = wholeE rk from rfl, whole_loops (by omega), ← hL] at this
    exact this
  have HWG := Lib.hid (specWholeGroup_any (rk : Int) (w.alloc (.cells #[] 24)) (by unfold I64; omega))
  have HQE := Lib.hid e1
  have HM := Lib.hid e2
  have HWE : Hid (∀ x, wordB rk x = true → solB rk es x = solZ es x) := Lib.hid fun x hx => by unfold solB solZ; rw [e1, hx]; rfl
  clear hL e1 e2
  go_enter Try.func7, Try.ntmps7
  go_wp2_with (first | (go_at_call 10; refine HQ.out.mono ?_; rintro e w' ⟨rfl, rfl⟩) | (go_at_call 33; refine (l1In_any _ _ _ _).mono ?_; rintro e w' ⟨rfl, rfl⟩; rw [HM.out]) | (go_at_call 34; refine HWG.out.mono ?_; rintro e w1 ⟨_, hg, b1⟩; obtain ⟨rg, rfl, hag⟩ := hg HR.out; have HAG := Lib.hid hag; obtain ⟨sg, rfl, _, _, hae⟩ := hag; obtain ⟨Ag, cg, rfl⟩ := hae.form; have B1 := Lib.hid b1; clear hg hae b1))
  have bg : Below w1.heap.size w1 (w1.alloc (Obj.cells #[Value.int IntKind.i64 (wholeG rk).1, Value.int IntKind.i64 (wholeG rk).2.1, .slice Ag (wholeG rk).2.2.length cg] 56)) := (Below.refl _ _).alloc (Nat.le_refl _) _
  refine (HLW.out _ _ (HAG.out.below bg)).mono ?_
  rintro e w2 ⟨rl, rfl, ol, b2⟩
  obtain ⟨Al, cl_, rfl, hcl, hml, _⟩ := OwnL.len ol
  have hz1 := B1.out.size
  have hzg := bg.size
  have hz2 := b2.size
  have B12 := Lib.hid (B1.out.trans ((bg.trans (b2.mono hzg)).mono hz1))
  have B2 : Hid (Below w.heap.size w w2) := Lib.hid (BX.out.trans (B12.out.mono (by omega)))
  have HF0 : Hid (OwFil EI 24 1 w.heap.size w2.heap.size w2 (.slice Al L.length cl_) L (.slice (some ⟨w.heap.size, 0, none⟩) 0 0) (solZ es) 0) := Lib.hid
    (fil_start (ol.widen (show w.heap.size + 1 ≤ _ by omega) (Nat.le_refl _)) (OwnL.keep HO0.out EI.stable fun b h1 h2 => B12.out.block b (by omega)) (by omega) (by omega))
  unfold maxLen at hml
  have hll := HLL.out
  clear bg ol b2 hzg B1 HAG HLW HWG HO0 HQ HM
  go_wp2
  go_loopw [8, 12] (fun out i wr => ∃ k : Nat, k ≤ L.length ∧ i = .int .i64 k ∧ OwFil EI 24 1 w.heap.size wr.heap.size wr (.slice Al L.length cl_) L out (solZ es) k ∧ Below w.heap.size w wr) (fun _ i _ => L.length - (intOf i).toNat)
  case atStart => exact ⟨0, Nat.zero_le _, rfl, HF0.out, B2.out⟩
  case round =>
    obtain ⟨k, hk, rfl, hf, hb⟩ := hrel
    have HFI := Lib.hid hf
    have HB := Lib.hid hb
    obtain ⟨wi, rfl⟩ : ∃ wi : World, wi = wr := ⟨_, rfl⟩
    clear hf hb
    have hwi := HB.out.size
    by_cases hlt : k < L.length
    · obtain ⟨g, A1, c1, rfl, hcell, h1, h2, hrd⟩ := fil_row HFI.out hlt
      have HRD := Lib.hid hrd
      obtain ⟨hwd, hx4⟩ := HW.out L[k] (List.getElem_mem hlt)
      have HIS := Lib.hid (specIsSolution_any rk (.slice A es.length cap) (.slice A1 L[k].length c1) es L[k] wi (HE.out.below (HB.out.mono (by omega))) HRD.out he (by omega))
      rw [HWE.out _ hwd] at HIS
      have HSK := Lib.hid (fun W (h : OwFil EI 24 1 w.heap.size W.heap.size W (.slice (some ⟨g, 0, none⟩) L.length cl_) L u8 (solZ es) k) (hp : solZ es L[k] = false) => h.skip hlt hp)
      have hkI : (k : Int) < (L.length : Int) := by omega
      unfold maxLen at h2
      clear hrd hwd
      generalize hps : solZ es L[k] = ps at HIS HSK
      have HPS := Lib.hid hps
      obtain ⟨ln, hln⟩ : ∃ n, n = L[k].length := ⟨_, rfl⟩
      rw [← hln] at hcell h1 hx4 HIS HRD
      clear hps hln
      go_wp2_with fail
      refine HIS.out.mono ?_
      rintro e w3 ⟨rfl, b3⟩
      have HF3 := Lib.hid (HFI.out.below EI.stable b3)
      have HB3 := Lib.hid (HB.out.trans (b3.mono hwi))
      have hc3 := (b3.cell (p := ⟨g, k, none⟩) (World.block_lt_of_cell? wi _ hcell)).trans hcell
      have hw3 := HB3.out.size
      clear hcell b3
      rcases ps with _ | _
      · have HF4 := Lib.hid (HSK.out w3 HF3.out rfl)
        go_wp2
        go_roundw
        case rel => exact ⟨k + 1, by omega, by go_num, HF4.out, HB3.out⟩
        case measure => simp [intOf]; omega
      · go_wp2_with (at_builtin; refine push_fil_ints rfl (.tmp 45) (.tmp 50) rfl HF3.out hw3 ((Below.refl _ _).alloc (Nat.le_refl _) (.cells #[.slice A1 ln c1] 24)) rfl hlt HPS.out w3.heap.size g L.length cl_ rfl rfl (.slice A1 ln c1) rfl (cell_new1 _ _ _) hc3 hll ?_; intro v4 w4 o4 g4; have HF4 := Lib.hid o4; have HB4 := Lib.hid (HB3.out.trans ((((Below.refl w.heap.size w3).alloc hw3 (.cells #[.slice A1 ln c1] 24)).grown g4 (by simp; omega) (fun b hb => (HF3.out.lt hb).1)))); clear o4 g4)
        go_roundw
        case rel => exact ⟨k + 1, by omega, by go_num, HF4.out, HB4.out⟩
        case measure => simp [intOf]; omega
    · obtain rfl : k = L.length := by omega
      have HFF := Lib.hid HFI.out.fin
      obtain ⟨Ao, co, hov, _⟩ := OwnL.len HFF.out
      subst hov
      go_wp2
      go_ret2
      rw [F.out]
      exact ⟨_, rfl, HFF.out, HB.out⟩
set_option maxHeartbeats 1000000 in
theorem implSolutionsUpTo_any (r m : Int) (u : Value) (es : List Int) (w : World) (h : RdI w u es) (he : es.length ≤ 1048576) :
    Calls Try.prog 6 #[.int .i64 r, u, .int .i64 m] w fun e w' => ∃ o, e = .returned (.tuple #[o, .bool (solsF r es m).2]) ∧ OwII w.heap.size w'.heap.size o (solsF r es m).1 w' ∧ Below w.heap.size w w' := by
  have HE := Lib.hid h
  obtain ⟨A, cap, rfl, _⟩ := h.arg
  clear h
  have HO0 := Lib.hid (OwII_lit w (lo := w.heap.size) (Nat.le_refl _))
  have bx : Below w.heap.size w (w.alloc (.cells #[] 24)) := (by repeat (first | exact Below.refl _ _ | (refine Below.setCell ?_ (by first | omega | (simp <;> omega)) _) | (refine bel_drewN ?_ _) | (refine Below.drew ?_) | (refine Below.alloc ?_ (by first | omega | (simp <;> omega)) _)))
  have hs0 : (w.alloc (.cells #[] 24)).heap.size = w.heap.size + 1 := by simp
  have HE1 := Lib.hid (HE.out.below bx)
  have hq := implIsEquation_any r (.slice A es.length cap) es (w.alloc (.cells #[] 24)) HE1.out.arg (by omega)
  have BX := Lib.hid bx
  clear bx
  rcases e1 : eqB r es with _ | _
  · rw [e1] at hq
    have HQ := Lib.hid hq
    have F : Hid (solsF r es m = ([], false)) := Lib.hid (by unfold solsF; rw [e1]; rfl)
    clear hq e1
    go_enter Try.func6, Try.ntmps6
    go_wp2_with (go_at_call 9; refine HQ.out.mono ?_; rintro e w' ⟨rfl, rfl⟩)
    go_ret2
    rw [F.out]
    exact ⟨_, rfl, by rw [hs0]; exact HO0.out, BX.out⟩
  rw [e1] at hq
  have HQ := Lib.hid hq
  clear hq
  rcases e2 : inB m 0 4 with _ | _
  · have F : Hid (solsF r es m = ([], false)) := Lib.hid (by unfold solsF; rw [e1, e2]; rfl)
    have HM := Lib.hid e2
    clear e1 e2
    go_enter Try.func6, Try.ntmps6
    go_wp2_with (first | (go_at_call 9; refine HQ.out.mono ?_; rintro e w' ⟨rfl, rfl⟩) | (go_at_call 31; refine (within_any _ _ _ _).mono ?_; rintro e w' ⟨rfl, rfl⟩; rw [HM.out]))
    go_ret2
    rw [F.out]
    exact ⟨_, rfl, by rw [hs0]; exact HO0.out, BX.out⟩
  have hr13 := inB_iff.1 (eqB_rank e1)
  have hm4 := inB_iff.1 e2
  obtain ⟨rk, rfl⟩ : ∃ rk : Nat, r = (rk : Int) := ⟨r.toNat, by omega⟩
  obtain ⟨mm, rfl⟩ : ∃ k : Nat, m = (k : Int) := ⟨m.toNat, by omega⟩
  obtain ⟨L, hL⟩ : ∃ L, L = uptW (lettersL rk) mm := ⟨_, rfl⟩
  have F : Hid (solsF rk es mm = (L.filter (solZ es), true)) := Lib.hid (by unfold solsF; rw [e1, e2, Int.toNat_natCast, Int.toNat_natCast, hL]; rfl)
  have HW : Hid (∀ x ∈ L, wordB rk x = true ∧ x.length ≤ 4) := Lib.hid fun x hx => by rw [hL] at hx; have := uptW_word (r := rk) (by omega) (by omega) (n := mm) (by omega) x hx; exact ⟨this.1, by omega⟩
  have HLL : Hid (L.length ≤ 1073741824) := Lib.hid (by
    rw [hL]
    have := uptW_len (lettersL rk) (by rw [lettersL_len]; omega) mm
    have h2 : 6 ^ (mm + 1) ≤ 6 ^ 5 := Nat.pow_le_pow_right (by omega) (by omega)
    omega)
  have HLW := Lib.hid (wordsUpTo_any rk mm (w.alloc (.cells #[] 24)) (by omega) (by omega))
  rw [← hL] at HLW
  have HM := Lib.hid e2
  clear hL e1 e2
  go_enter Try.func6, Try.ntmps6
  go_wp2_with (first | (go_at_call 9; refine HQ.out.mono ?_; rintro e w' ⟨rfl, rfl⟩) | (go_at_call 31; refine (within_any _ _ _ _).mono ?_; rintro e w' ⟨rfl, rfl⟩; rw [HM.out]) | (go_at_call 32; refine HLW.out.mono ?_; rintro e w2 ⟨rl, rfl, ol, b2⟩; have OL := Lib.hid ol; obtain ⟨Al, cl_, rfl, hcl, hml, _⟩ := OwnL.len ol; have B12 := Lib.hid b2; clear ol b2))
  have hz2 := B12.out.size
  have B2 : Hid (Below w.heap.size w w2) := Lib.hid (BX.out.trans (B12.out.mono (by omega)))
  have HF0 : Hid (OwFil EI 24 1 w.heap.size w2.heap.size w2 (.slice Al L.length cl_) L (.slice (some ⟨w.heap.size, 0, none⟩) 0 0) (solZ es) 0) := Lib.hid
    (fil_start (OL.out.widen (show w.heap.size + 1 ≤ _ by omega) (Nat.le_refl _)) (OwnL.keep HO0.out EI.stable fun b h1 h2 => B12.out.block b (by omega)) (by omega) (by omega))
  unfold maxLen at hml
  have hll := HLL.out
  clear HLW HO0 HQ HM OL
  go_loopw [8, 26] (fun out i wr => ∃ k : Nat, k ≤ L.length ∧ i = .int .i64 k ∧ OwFil EI 24 1 w.heap.size wr.heap.size wr (.slice Al L.length cl_) L out (solZ es) k ∧ Below w.heap.size w wr) (fun _ i _ => L.length - (intOf i).toNat)
  case atStart => exact ⟨0, Nat.zero_le _, rfl, HF0.out, B2.out⟩
  case round =>
    obtain ⟨k, hk, rfl, hf, hb⟩ := hrel
    have HFI := Lib.hid hf
    have HB := Lib.hid hb
    obtain ⟨wi, rfl⟩ : ∃ wi : World, wi = wr := ⟨_, rfl⟩
    clear hf hb
    have hwi := HB.out.size
    by_cases hlt : k < L.length
    · obtain ⟨g, A1, c1, rfl, hcell, h1, h2, hrd⟩ := fil_row HFI.out hlt
      have HRD := Lib.hid hrd
      obtain ⟨hwd, hx4⟩ := HW.out L[k] (List.getElem_mem hlt)
      have HIS := Lib.hid (implSubstituteIn_any (.slice A es.length cap) (.slice A1 L[k].length c1) es L[k] wi (HE.out.below (HB.out.mono (by omega))) HRD.out he (by omega))
      have HSL := Lib.hid (substF_len es L[k] (by omega))
      have HPS : Hid (solZ es L[k] = (((substF es L[k]).length : Int) == 0)) := Lib.hid (by unfold solZ; rw [Bool.eq_iff_iff]; simp)
      have HSK := Lib.hid (fun W (h : OwFil EI 24 1 w.heap.size W.heap.size W (.slice (some ⟨g, 0, none⟩) L.length cl_) L u8 (solZ es) k) (hp : solZ es L[k] = false) => h.skip hlt hp)
      have hkI : (k : Int) < (L.length : Int) := by omega
      unfold maxLen at h2
      clear hrd hwd
      generalize substF es L[k] = S at HIS HSL HPS
      generalize hps : solZ es L[k] = ps at HPS HSK
      have HPS2 := Lib.hid hps
      obtain ⟨ln, hln⟩ : ∃ n, n = L[k].length := ⟨_, rfl⟩
      rw [← hln] at hcell h1 hx4 HIS HRD
      clear hps hln
      go_wp2_with fail
      refine HIS.out.mono ?_
      rintro e w3 ⟨rS, rfl, oS, b3⟩
      obtain ⟨AS, cS, rfl, _⟩ := OwI.form oS
      have HF3 := Lib.hid (HFI.out.below EI.stable b3)
      have HB3 := Lib.hid (HB.out.trans (b3.mono hwi))
      have hw3 := HB3.out.size
      have hc3 := (b3.cell (p := ⟨g, k, none⟩) (World.block_lt_of_cell? wi _ hcell)).trans hcell
      clear hcell b3 oS
      rcases e5 : ((S.length : Int) == 0) with _ | _
      · have HP := HPS.out
        rw [e5] at HP
        subst HP
        have HF4 := Lib.hid (HSK.out w3 HF3.out rfl)
        go_wp2
        go_roundw
        case rel => exact ⟨k + 1, by omega, by go_num, HF4.out, HB3.out⟩
        case measure => simp [intOf]; omega
      · have HP := HPS.out
        rw [e5] at HP
        subst HP
        go_wp2_with (at_builtin; refine push_fil_ints rfl (.tmp 35) (.tmp 37) rfl HF3.out hw3 ((Below.refl _ _).alloc (Nat.le_refl _) (.cells #[.slice A1 ln c1] 24)) rfl hlt HPS2.out w3.heap.size g L.length cl_ rfl rfl (.slice A1 ln c1) rfl (cell_new1 _ _ _) hc3 hll ?_; intro v4 w4 o4 g4; have HF4 := Lib.hid o4; have HB4 := Lib.hid (HB3.out.trans ((((Below.refl w.heap.size w3).alloc hw3 (.cells #[.slice A1 ln c1] 24)).grown g4 (by simp; omega) (fun b hb => (HF3.out.lt hb).1)))); clear o4 g4)
        go_roundw
        case rel => exact ⟨k + 1, by omega, by go_num, HF4.out, HB4.out⟩
        case measure => simp [intOf]; omega
    · obtain rfl : k = L.length := by omega
      have HFF := Lib.hid HFI.out.fin
      obtain ⟨Ao, co, hov, _⟩ := OwnL.len HFF.out
      subst hov
      go_wp2
      go_ret2
      rw [F.out]
      exact ⟨_, rfl, HFF.out, HB.out⟩
end Go.Proofs.Ytgoghkboklehnaa
