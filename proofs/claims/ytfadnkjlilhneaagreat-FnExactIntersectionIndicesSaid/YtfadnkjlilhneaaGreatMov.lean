/- MoveBase of the reference and of the program at a folded graph and one of its vertices. -/
import Derived.Test.YtfadnkjlilhneaaGreatCoreGS
import Derived.Test.YtfadnkjlilhneaaGreatFoldK
namespace Go.Proofs.YtfadnkjlilhneaaGreat
set_option maxRecDepth 20000
set_option linter.unusedVariables false
set_option linter.unusedSimpArgs false
open Go.RowKit

def movO (n u : Nat) : List Int := (u : Int) :: delO n (u : Int)
def movG (g : GrD) (u : Nat) : GrD := coreG (rnG g (movO g.2.1.toNat u))
theorem movO_ok {n u : Nat} (hu : u < n) : OrdN (n : Int) (movO n u) := by
 refine ⟨List.nodup_cons.2 ⟨fun h => (delO_mem.1 h).2 rfl, delO_nodup _ _⟩, fun y hy => ?_, by simp [movO]⟩
 rcases List.mem_cons.1 hy with rfl | hy
 ·omega
 ·exact (delO_mem.1 hy).1
theorem movO_succ (n u : Nat) : (u : Int) :: delO (n + 1) (u : Int) = if (n : Int) ≠ (u : Int) then ((u : Int) :: delO n (u : Int)) ++ [(n : Int)] else (u : Int) :: delO n (u : Int) := by
 rw [delO_succ]
 split <;> rfl
theorem movO_len (n u : Nat) : ((u : Int) :: delO n (u : Int)).length ≤ n + 1 := by
 have h1 : (delO n (u : Int)).length ≤ n := by
  unfold delO
  refine Nat.le_trans (List.length_filter_le _ _) ?_
  simp
 rw [List.length_cons]; omega
set_option maxHeartbeats 2000000 in
theorem specMoveBase_any (v : Value) (g : GrD) (u : Nat) (w : World) (h : ArgG w v g) (hf : foldB g = true) (hu : (u : Int) < g.2.1) :
  Calls Tryz.prog 82 #[v, .int .i64 (u : Int)] w fun e w' => ∃ r, e = .returned (.tuple #[r, .bool true]) ∧ OwG w' w.heap.size r (movG g u) ∧ Below w.heap.size w w' := by
 have HG := Lib.hid h
 have HF := Lib.hid hf
 have hgr := (foldB_parts hf).1
 obtain ⟨h13, h40, h120, _⟩ := grB_parts hgr
 obtain ⟨n, hn⟩ : ∃ n : Nat, g.2.1 = (n : Int) := ⟨g.2.1.toNat, by omega⟩
 have hun : u < n := by omega
 have HMO := Lib.hid (movO_ok hun)
 have HGM : Hid (grB (rnG g (movO n u)) = true) := Lib.hid (grB_rnGN hgr (by rw [hn]; exact movO_ok hun))
 have HMG : Hid (movG g u = coreG (rnG g (movO n u))) := Lib.hid (by unfold movG; rw [hn]; rfl)
 have HGR := Lib.hid hgr
 obtain ⟨s, rfl, hi1, hi2, ha⟩ := h
 obtain ⟨A, cap, rfl⟩ := ha.form
 obtain ⟨g1, N, es⟩ := g
 simp only at *
 subst hn
 clear ha hf hgr
 go_enter Tryz.func82, Tryz.ntmps82
 go_wp2_with fail
 obtain ⟨W1, hW1⟩ : ∃ W, W = w.alloc (Obj.cells #[Value.int IntKind.i64 g1, Value.int IntKind.i64 (n : Int), .slice A es.length cap] 31) := ⟨_, rfl⟩
 rw [← hW1]
 obtain ⟨hs1, b1, hc1, _⟩ := gbox hW1
 obtain ⟨W, hW⟩ : ∃ W, W = W1.alloc (Obj.cells #[Value.int IntKind.i64 0, Value.int IntKind.i64 0, .slice none 0 0] 31) := ⟨_, rfl⟩
 rw [← hW]
 obtain ⟨hs2, b2, hc2, hf2⟩ := gbox hW
 have HC1 := Lib.hid hc1
 have HC2 := Lib.hid hc2
 have HF2 := Lib.hid hf2
 have BX1 := Lib.hid b1
 have BX2 := Lib.hid b2
 have hsW : W.heap.size = w.heap.size + 2 := by omega
 have BX : Hid (Below w.heap.size w W) := Lib.hid (b1.trans (b2.mono (by omega)))
 have HCL : Hid (∀ w', Below (w.heap.size + 2) W w' → w'.cell? ⟨w.heap.size, 0, none⟩ = some (.int .i64 g1) ∧ w'.cell? ⟨w.heap.size, 1, none⟩ = some (.int .i64 (n : Int)) ∧ w'.cell? ⟨w.heap.size, 2, none⟩ = some (.slice A es.length cap)) := Lib.hid fun w' hb => HC1.out w' ((BX2.out.mono (by omega)).trans (hb.mono (by omega)))
 have HRC : Hid (∀ w', Below (w.heap.size + 2) W w' → (w'.cell? ⟨w.heap.size + 1, 0, none⟩ = some (.int .i64 0) ∧ w'.cell? ⟨w.heap.size + 1, 1, none⟩ = some (.int .i64 0) ∧ w'.cell? ⟨w.heap.size + 1, 2, none⟩ = some (.slice none 0 0)) ∧ ∀ j, w'.frozen? ⟨w.heap.size + 1, j, none⟩ = false) := Lib.hid fun w' hb => by
  have e : Below (W1.heap.size + 1) W w' := by rw [hs1]; exact hb
  have h1 := HC2.out w' e
  have h2 := fun j => HF2.out j w' e
  rw [hs1] at h1 h2
  exact ⟨h1, h2⟩
 have HA : Hid (∀ w', Below (w.heap.size + 2) W w' → ArgG w' (.agg #[.int .i64 g1, .int .i64 (n : Int), .slice A es.length cap]) (g1, (n : Int), es)) := Lib.hid fun w' hb => HG.out.below (BX.out.trans (hb.mono (by omega)))
 clear hW1 hW hc1 hc2 hf2 b1 b2 HC1 HC2 HF2 BX1 BX2 hs1 hs2
 have hfo := specIsFolded_any _ (g1, (n : Int), es) W (HA.out W ((Below.refl W.heap.size W).mono (by omega)))
 rw [HF.out] at hfo
 refine hfo.mono ?_
 clear hfo
 rintro e w2 ⟨rfl, b2⟩
 have hs2 := b2.size
 have B2 : Hid (Below (w.heap.size + 2) W w2) := Lib.hid (b2.mono (by omega))
 clear b2
 obtain ⟨q0, q1, q2⟩ := HCL.out w2 B2.out
 have hw1 : IntKind.i64.wrap ((n : Int) - 1) = (n : Int) - 1 := by rw [IntKind.wrap_i64]; omega
 have hin : inB (u : Int) 0 ((n : Int) - 1) = true := inB_iff.2 ⟨by omega, by omega⟩
 have HIN := Lib.hid hin
 clear hin
 go_wp2_with (go_at_call 57; refine (l1In_any _ _ _ _).mono ?_; rintro e w' ⟨rfl, rfl⟩; rw [HIN.out])
 obtain ⟨W4, hW4⟩ : ∃ W4, W4 = w2.alloc (.cells #[.int .i64 (u : Int)] 3) := ⟨_, rfl⟩
 have o4 : OwI (w2.alloc (.cells #[.int .i64 (u : Int)] 3)) w2.heap.size (.slice (some ⟨w2.heap.size, 0, none⟩) 1 1) [(u : Int)] := OwI_lit w2 [(u : Int)] (fun x hx => by simp at hx; subst hx; unfold I64; omega) (by simp) (Nat.le_refl _)
 have b4 : Below w2.heap.size w2 (w2.alloc (.cells #[.int .i64 (u : Int)] 3)) := (Below.refl _ _).alloc (Nat.le_refl _) _
 rw [← hW4] at o4 b4 ⊢
 have hs4 : W4.heap.size = w2.heap.size + 1 := by rw [hW4]; simp
 have O4 := Lib.hid o4
 have B4 : Hid (Below (w.heap.size + 2) W W4) := Lib.hid (B2.out.trans (b4.mono (by omega)))
 clear hW4 o4 b4 q0 q1 q2
 go_loopw [6, 7] (fun vo i wr => ∃ q : Nat, q ≤ n ∧ i = .int .i64 q ∧ OwI wr (w.heap.size + 2) vo ((u : Int) :: delO q (u : Int)) ∧ Below (w.heap.size + 2) W wr) (fun _ i _ => n - (intOf i).toNat)
 case atStart => exact ⟨0, Nat.zero_le _, rfl, O4.out.mono (by omega), B4.out⟩
 case round =>
  obtain ⟨q, hq, rfl, ho, hb⟩ := hrel
  have HO := Lib.hid ho
  have HB := Lib.hid hb
  obtain ⟨wi, rfl⟩ : ∃ wi : World, wi = wr := ⟨_, rfl⟩
  clear ho hb
  have hwi := HB.out.size
  obtain ⟨q0, q1, q2⟩ := HCL.out wi HB.out
  have hlen := movO_len q u
  have HDS := Lib.hid (movO_succ q u)
  obtain ⟨Ao, co, rfl, _⟩ := OwI.form HO.out
  by_cases hlt : q < n
  ·have hqI : (q : Int) < (n : Int) := by omega
   have HK : Hid (I64 (q : Int)) := Lib.hid (by unfold I64; omega)
   rcases e6 : ((q : Int) != (u : Int)) with _ | _
   ·have hqx : (q : Int) = (u : Int) := by simpa using e6
    have HD : Hid ((u : Int) :: delO (q + 1) (u : Int) = (u : Int) :: delO q (u : Int)) := Lib.hid (by rw [HDS.out, if_neg (by simp [hqx])])
    generalize ((u : Int) :: delO q (u : Int)) = lo at *
    clear hqx HDS
    go_wp2
    go_roundw
    case rel => exact ⟨q + 1, by omega, by go_num, by rw [HD.out]; exact HO.out, HB.out⟩
    case measure => simp [intOf]; omega
   ·have hqx : (q : Int) ≠ (u : Int) := by simpa using e6
    have HD : Hid ((u : Int) :: delO (q + 1) (u : Int) = ((u : Int) :: delO q (u : Int)) ++ [(q : Int)]) := Lib.hid (by rw [HDS.out, if_pos hqx])
    generalize ((u : Int) :: delO q (u : Int)) = lo at *
    clear hqx HDS
    go_wp2_with (at_builtin; refine push_int rfl (.tmp 34) (.tmp 36) rfl _ _ _ (OwI.alloc HO.out _) rfl _ _ rfl (cell_new1 _ _ _) HK.out (by first | omega | (simp <;> omega)) (by first | omega | (simp <;> omega)) ?_; intro v9 wv9 o9 g9 p9)
    have O9 := Lib.hid o9
    have B9 : Hid (Below (w.heap.size + 2) W wv9) := Lib.hid ((HB.out.alloc (by omega) (.cells #[.int .i64 q] 3)).grown g9 (by simp <;> omega) (fun c hc => (HO.out.1.lt c hc).1))
    clear o9 g9 p9
    go_roundw
    case rel => exact ⟨q + 1, by omega, by go_num, by rw [HD.out]; exact O9.out, B9.out⟩
    case measure => simp [intOf]; omega
  ·obtain rfl : q = n := by omega
   clear HDS
   have HMO2 : Hid (OrdN (q : Int) ((u : Int) :: delO q (u : Int))) := HMO
   have HGM2 : Hid (grB (rnG (g1, (q : Int), es) ((u : Int) :: delO q (u : Int))) = true) := HGM
   have HMG2 : Hid (movG (g1, (q : Int), es) u = coreG (rnG (g1, (q : Int), es) ((u : Int) :: delO q (u : Int)))) := HMG
   clear HMO HGM HMG
   generalize ((u : Int) :: delO q (u : Int)) = lo at *
   go_wp2_with fail
   refine (specRenumber_anyN _ _ (g1, (q : Int), es) lo wi (HA.out wi HB.out) HO.out.rd HGR.out HMO2.out).mono ?_
   rintro e w5 ⟨r5, rfl, o5, b5⟩
   have hs5 := b5.size
   have B5 : Hid (Below (w.heap.size + 2) W w5) := Lib.hid (HB.out.trans (b5.mono (by omega)))
   generalize rnG (g1, (q : Int), es) lo = M at *
   obtain ⟨m1, m2, ms⟩ := M
   have OA5 := Lib.hid o5.arg
   obtain ⟨s5, rfl, _, _, oe5⟩ := o5
   obtain ⟨A5, c5, rfl, _⟩ := oe5.form
   simp only at *
   clear oe5 b5 q0 q1 q2
   go_wp2_with fail
   obtain ⟨WX, hWX⟩ : ∃ WX, WX = w5.alloc (Obj.cells #[Value.int IntKind.i64 m1, Value.int IntKind.i64 m2, .slice A5 ms.length c5] 31) := ⟨_, rfl⟩
   obtain ⟨hsX, bX, _, _⟩ := gbox hWX
   rw [← hWX]
   have BXX : Hid (Below (w.heap.size + 2) W WX) := Lib.hid (B5.out.trans (bX.mono (by omega)))
   refine (specCoreGraph_any _ (m1, m2, ms) WX (OA5.out.below bX) HGM2.out).mono ?_
   clear hWX bX
   rintro e w6 ⟨r6, rfl, o6, b6⟩
   have hs6 := b6.size
   have B6 : Hid (Below (w.heap.size + 2) W w6) := Lib.hid (BXX.out.trans (b6.mono (by omega)))
   generalize coreG (m1, m2, ms) = K at *
   obtain ⟨k1, k2, ks⟩ := K
   obtain ⟨s6, rfl, hj1, hj2, oe6⟩ := o6
   obtain ⟨A6, c6, rfl, _⟩ := oe6.form
   simp only at *
   have OE6 := Lib.hid oe6
   clear b6 oe6
   obtain ⟨⟨r0, r1, r2⟩, hrf⟩ := HRC.out w6 B6.out
   have rf0 := hrf 0
   have rf1 := hrf 1
   have rf2 := hrf 2
   have HBF := Lib.hid (BX.out.trans (B6.out.mono (by omega)))
   have hq6 : w.heap.size + 1 < w6.heap.size := by omega
   clear hrf
   go_wp2
   obtain ⟨e0, e1, e2⟩ := cells3F (.int .i64 k1) (.int .i64 k2) (.slice A6 ks.length c6) r0 r1 r2
   have bw : Below w.heap.size w (((w6.setCell ⟨w.heap.size + 1, 0, none⟩ (.int .i64 k1)).setCell ⟨w.heap.size + 1, 1, none⟩ (.int .i64 k2)).setCell ⟨w.heap.size + 1, 2, none⟩ (.slice A6 ks.length c6)) := (((HBF.out.setCell (by simp <;> omega) _).setCell (by simp <;> omega) _).setCell (by simp <;> omega) _)
   have ow : OwE (((w6.setCell ⟨w.heap.size + 1, 0, none⟩ (.int .i64 k1)).setCell ⟨w.heap.size + 1, 1, none⟩ (.int .i64 k2)).setCell ⟨w.heap.size + 1, 2, none⟩ (.slice A6 ks.length c6)) w.heap.size (.slice A6 ks.length c6) ks := OwE.mono (((OE6.out.far (by show w.heap.size + 1 < _; omega) _).far (by show w.heap.size + 1 < _; omega) _).far (by show w.heap.size + 1 < _; omega) _) (by omega)
   generalize (((w6.setCell ⟨w.heap.size + 1, 0, none⟩ (.int .i64 k1)).setCell ⟨w.heap.size + 1, 1, none⟩ (.int .i64 k2)).setCell ⟨w.heap.size + 1, 2, none⟩ (.slice A6 ks.length c6)) = wf at *
   rw [HMG2.out]
   exact bodyPost_ret (v := .tuple #[.agg #[.int .i64 k1, .int .i64 k2, .slice A6 ks.length c6], .bool true]) (by simp [results, Tryz.results82, go_sem, e0, e1, e2]) rfl ⟨_, rfl, ⟨.slice A6 ks.length c6, rfl, hj1, hj2, ow⟩, bw⟩
set_option maxHeartbeats 2000000 in
theorem implMoveBase_any (v : Value) (g : GrD) (u : Nat) (w : World) (h : ArgG w v g) (hf : foldB g = true) (hu : (u : Int) < g.2.1) :
  Calls Tryz.prog 90 #[v, .int .i64 (u : Int)] w fun e w' => ∃ r, e = .returned (.tuple #[r, .bool true]) ∧ OwG w' w.heap.size r (movG g u) ∧ Below w.heap.size w w' := by
 have HG := Lib.hid h
 have HF := Lib.hid hf
 have hgr := (foldB_parts hf).1
 obtain ⟨h13, h40, h120, _⟩ := grB_parts hgr
 obtain ⟨n, hn⟩ : ∃ n : Nat, g.2.1 = (n : Int) := ⟨g.2.1.toNat, by omega⟩
 have hun : u < n := by omega
 have HMO := Lib.hid (movO_ok hun)
 have HGM : Hid (grB (rnG g (movO n u)) = true) := Lib.hid (grB_rnGN hgr (by rw [hn]; exact movO_ok hun))
 have HMG : Hid (movG g u = coreG (rnG g (movO n u))) := Lib.hid (by unfold movG; rw [hn]; rfl)
 have HGR := Lib.hid hgr
 obtain ⟨s, rfl, hi1, hi2, ha⟩ := h
 obtain ⟨A, cap, rfl⟩ := ha.form
 obtain ⟨g1, N, es⟩ := g
 simp only at *
 subst hn
 clear ha hf hgr
 go_enter Tryz.func90, Tryz.ntmps90
 go_wp2_with fail
 obtain ⟨W1, hW1⟩ : ∃ W, W = w.alloc (Obj.cells #[Value.int IntKind.i64 g1, Value.int IntKind.i64 (n : Int), .slice A es.length cap] 31) := ⟨_, rfl⟩
 rw [← hW1]
 obtain ⟨hs1, b1, hc1, _⟩ := gbox hW1
 obtain ⟨W, hW⟩ : ∃ W, W = W1.alloc (Obj.cells #[Value.int IntKind.i64 0, Value.int IntKind.i64 0, .slice none 0 0] 31) := ⟨_, rfl⟩
 rw [← hW]
 obtain ⟨hs2, b2, hc2, hf2⟩ := gbox hW
 have HC1 := Lib.hid hc1
 have HC2 := Lib.hid hc2
 have HF2 := Lib.hid hf2
 have BX1 := Lib.hid b1
 have BX2 := Lib.hid b2
 have hsW : W.heap.size = w.heap.size + 2 := by omega
 have BX : Hid (Below w.heap.size w W) := Lib.hid (b1.trans (b2.mono (by omega)))
 have HCL : Hid (∀ w', Below (w.heap.size + 2) W w' → w'.cell? ⟨w.heap.size, 0, none⟩ = some (.int .i64 g1) ∧ w'.cell? ⟨w.heap.size, 1, none⟩ = some (.int .i64 (n : Int)) ∧ w'.cell? ⟨w.heap.size, 2, none⟩ = some (.slice A es.length cap)) := Lib.hid fun w' hb => HC1.out w' ((BX2.out.mono (by omega)).trans (hb.mono (by omega)))
 have HRC : Hid (∀ w', Below (w.heap.size + 2) W w' → (w'.cell? ⟨w.heap.size + 1, 0, none⟩ = some (.int .i64 0) ∧ w'.cell? ⟨w.heap.size + 1, 1, none⟩ = some (.int .i64 0) ∧ w'.cell? ⟨w.heap.size + 1, 2, none⟩ = some (.slice none 0 0)) ∧ ∀ j, w'.frozen? ⟨w.heap.size + 1, j, none⟩ = false) := Lib.hid fun w' hb => by
  have e : Below (W1.heap.size + 1) W w' := by rw [hs1]; exact hb
  have h1 := HC2.out w' e
  have h2 := fun j => HF2.out j w' e
  rw [hs1] at h1 h2
  exact ⟨h1, h2⟩
 have HA : Hid (∀ w', Below (w.heap.size + 2) W w' → ArgG w' (.agg #[.int .i64 g1, .int .i64 (n : Int), .slice A es.length cap]) (g1, (n : Int), es)) := Lib.hid fun w' hb => HG.out.below (BX.out.trans (hb.mono (by omega)))
 clear hW1 hW hc1 hc2 hf2 b1 b2 HC1 HC2 HF2 BX1 BX2 hs1 hs2
 have hfo := implIsFolded_any _ (g1, (n : Int), es) W (HA.out W ((Below.refl W.heap.size W).mono (by omega)))
 rw [HF.out] at hfo
 refine hfo.mono ?_
 clear hfo
 rintro e w2 ⟨rfl, b2⟩
 have hs2 := b2.size
 have B2 : Hid (Below (w.heap.size + 2) W w2) := Lib.hid (b2.mono (by omega))
 clear b2
 obtain ⟨q0, q1, q2⟩ := HCL.out w2 B2.out
 have hin : inB (u : Int) 0 (wrap64 ((n : Int) - 1)) = true := by rw [show wrap64 ((n : Int) - 1) = (n : Int) - 1 by unfold wrap64; omega]; exact inB_iff.2 ⟨by omega, by omega⟩
 have HIN := Lib.hid hin
 clear hin
 go_wp2_with fail
 refine (grHas_any _ _ _ _ _ _ _).mono ?_
 rintro e w3 ⟨rfl, b3⟩
 rw [HIN.out]
 have hs3 := b3.size
 have B2' : Hid (Below (w.heap.size + 2) W w3) := Lib.hid (B2.out.trans (b3.mono (by omega)))
 clear b3 q0 q1 q2 B2
 obtain ⟨q0, q1, q2⟩ := HCL.out w3 B2'.out
 go_wp2
 obtain ⟨W4, hW4⟩ : ∃ W4, W4 = w3.alloc (.cells #[.int .i64 (u : Int)] 3) := ⟨_, rfl⟩
 have o4 : OwI (w3.alloc (.cells #[.int .i64 (u : Int)] 3)) w3.heap.size (.slice (some ⟨w3.heap.size, 0, none⟩) 1 1) [(u : Int)] := OwI_lit w3 [(u : Int)] (fun x hx => by simp at hx; subst hx; unfold I64; omega) (by simp) (Nat.le_refl _)
 have b4 : Below w3.heap.size w3 (w3.alloc (.cells #[.int .i64 (u : Int)] 3)) := (Below.refl _ _).alloc (Nat.le_refl _) _
 rw [← hW4] at o4 b4 ⊢
 have hs4 : W4.heap.size = w3.heap.size + 1 := by rw [hW4]; simp
 have O4 := Lib.hid o4
 have B4 : Hid (Below (w.heap.size + 2) W W4) := Lib.hid (B2'.out.trans (b4.mono (by omega)))
 clear hW4 o4 b4 q0 q1 q2
 go_loopw [6, 7] (fun vo i wr => ∃ q : Nat, q ≤ n ∧ i = .int .i64 q ∧ OwI wr (w.heap.size + 2) vo ((u : Int) :: delO q (u : Int)) ∧ Below (w.heap.size + 2) W wr) (fun _ i _ => n - (intOf i).toNat)
 case atStart => exact ⟨0, Nat.zero_le _, rfl, O4.out.mono (by omega), B4.out⟩
 case round =>
  obtain ⟨q, hq, rfl, ho, hb⟩ := hrel
  have HO := Lib.hid ho
  have HB := Lib.hid hb
  obtain ⟨wi, rfl⟩ : ∃ wi : World, wi = wr := ⟨_, rfl⟩
  clear ho hb
  have hwi := HB.out.size
  obtain ⟨q0, q1, q2⟩ := HCL.out wi HB.out
  have hlen := movO_len q u
  have HDS := Lib.hid (movO_succ q u)
  obtain ⟨Ao, co, rfl, _⟩ := OwI.form HO.out
  by_cases hlt : q < n
  ·have hqI : (q : Int) < (n : Int) := by omega
   have HK : Hid (I64 (q : Int)) := Lib.hid (by unfold I64; omega)
   rcases e6 : ((q : Int) != (u : Int)) with _ | _
   ·have hqx : (q : Int) = (u : Int) := by simpa using e6
    have HD : Hid ((u : Int) :: delO (q + 1) (u : Int) = (u : Int) :: delO q (u : Int)) := Lib.hid (by rw [HDS.out, if_neg (by simp [hqx])])
    generalize ((u : Int) :: delO q (u : Int)) = lo at *
    clear hqx HDS
    go_wp2
    go_roundw
    case rel => exact ⟨q + 1, by omega, by go_num, by rw [HD.out]; exact HO.out, HB.out⟩
    case measure => simp [intOf]; omega
   ·have hqx : (q : Int) ≠ (u : Int) := by simpa using e6
    have HD : Hid ((u : Int) :: delO (q + 1) (u : Int) = ((u : Int) :: delO q (u : Int)) ++ [(q : Int)]) := Lib.hid (by rw [HDS.out, if_pos hqx])
    generalize ((u : Int) :: delO q (u : Int)) = lo at *
    clear hqx HDS
    go_wp2_with (at_builtin; refine push_int rfl (.tmp 30) (.tmp 32) rfl _ _ _ (OwI.alloc HO.out _) rfl _ _ rfl (cell_new1 _ _ _) HK.out (by first | omega | (simp <;> omega)) (by first | omega | (simp <;> omega)) ?_; intro v9 wv9 o9 g9 p9)
    have O9 := Lib.hid o9
    have B9 : Hid (Below (w.heap.size + 2) W wv9) := Lib.hid ((HB.out.alloc (by omega) (.cells #[.int .i64 q] 3)).grown g9 (by simp <;> omega) (fun c hc => (HO.out.1.lt c hc).1))
    clear o9 g9 p9
    go_roundw
    case rel => exact ⟨q + 1, by omega, by go_num, by rw [HD.out]; exact O9.out, B9.out⟩
    case measure => simp [intOf]; omega
  ·obtain rfl : q = n := by omega
   clear HDS
   have HMO2 : Hid (OrdN (q : Int) ((u : Int) :: delO q (u : Int))) := HMO
   have HGM2 : Hid (grB (rnG (g1, (q : Int), es) ((u : Int) :: delO q (u : Int))) = true) := HGM
   have HMG2 : Hid (movG (g1, (q : Int), es) u = coreG (rnG (g1, (q : Int), es) ((u : Int) :: delO q (u : Int)))) := HMG
   clear HMO HGM HMG
   generalize ((u : Int) :: delO q (u : Int)) = lo at *
   go_wp2_with fail
   refine (part_anyN _ _ (g1, (q : Int), es) lo wi (HA.out wi HB.out) HO.out.rd HGR.out HMO2.out).mono ?_
   rintro e w5 ⟨r5, rfl, o5, b5⟩
   have hs5 := b5.size
   have B5 : Hid (Below (w.heap.size + 2) W w5) := Lib.hid (HB.out.trans (b5.mono (by omega)))
   generalize rnG (g1, (q : Int), es) lo = M at *
   obtain ⟨m1, m2, ms⟩ := M
   have OA5 := Lib.hid o5.arg
   obtain ⟨s5, rfl, _, _, oe5⟩ := o5
   obtain ⟨A5, c5, rfl, _⟩ := oe5.form
   simp only at *
   clear oe5 b5 q0 q1 q2
   go_wp2_with fail
   refine (implCoreGraph_any _ (m1, m2, ms) w5 OA5.out HGM2.out).mono ?_
   rintro e w6 ⟨r6, rfl, o6, b6⟩
   have hs6 := b6.size
   have B6 : Hid (Below (w.heap.size + 2) W w6) := Lib.hid (B5.out.trans (b6.mono (by omega)))
   generalize coreG (m1, m2, ms) = K at *
   obtain ⟨k1, k2, ks⟩ := K
   obtain ⟨s6, rfl, hj1, hj2, oe6⟩ := o6
   obtain ⟨A6, c6, rfl, _⟩ := oe6.form
   simp only at *
   have OE6 := Lib.hid oe6
   clear b6 oe6
   obtain ⟨⟨r0, r1, r2⟩, hrf⟩ := HRC.out w6 B6.out
   have rf0 := hrf 0
   have rf1 := hrf 1
   have rf2 := hrf 2
   have HBF := Lib.hid (BX.out.trans (B6.out.mono (by omega)))
   have hq6 : w.heap.size + 1 < w6.heap.size := by omega
   clear hrf
   go_wp2
   obtain ⟨e0, e1, e2⟩ := cells3F (.int .i64 k1) (.int .i64 k2) (.slice A6 ks.length c6) r0 r1 r2
   have bw : Below w.heap.size w (((w6.setCell ⟨w.heap.size + 1, 0, none⟩ (.int .i64 k1)).setCell ⟨w.heap.size + 1, 1, none⟩ (.int .i64 k2)).setCell ⟨w.heap.size + 1, 2, none⟩ (.slice A6 ks.length c6)) := (((HBF.out.setCell (by simp <;> omega) _).setCell (by simp <;> omega) _).setCell (by simp <;> omega) _)
   have ow : OwE (((w6.setCell ⟨w.heap.size + 1, 0, none⟩ (.int .i64 k1)).setCell ⟨w.heap.size + 1, 1, none⟩ (.int .i64 k2)).setCell ⟨w.heap.size + 1, 2, none⟩ (.slice A6 ks.length c6)) w.heap.size (.slice A6 ks.length c6) ks := OwE.mono (((OE6.out.far (by show w.heap.size + 1 < _; omega) _).far (by show w.heap.size + 1 < _; omega) _).far (by show w.heap.size + 1 < _; omega) _) (by omega)
   generalize (((w6.setCell ⟨w.heap.size + 1, 0, none⟩ (.int .i64 k1)).setCell ⟨w.heap.size + 1, 1, none⟩ (.int .i64 k2)).setCell ⟨w.heap.size + 1, 2, none⟩ (.slice A6 ks.length c6)) = wf at *
   rw [HMG2.out]
   exact bodyPost_ret (v := .tuple #[.agg #[.int .i64 k1, .int .i64 k2, .slice A6 ks.length c6], .bool true]) (by simp [results, Tryz.results90, go_sem, e0, e1, e2]) rfl ⟨_, rfl, ⟨.slice A6 ks.length c6, rfl, hj1, hj2, ow⟩, bw⟩
end Go.Proofs.YtfadnkjlilhneaaGreat
