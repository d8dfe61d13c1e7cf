/- Morphisms in memory; the morphism of a Whitehead automorphism, of the reference and of the program. -/
import Derived.Test.YtnmkbkpegkchpaaWhP
import Derived.Test.YtnmkbkpegkchpaaOwnF
import Derived.Test.YtnmkbkpegkchpaaIsWh
import Derived.Test.YtnmkbkpegkchpaaWhS
import Derived.Deep.RegionHeld3
import Derived.Outline
namespace Go.Proofs.Ytnmkbkpegkchpaa
set_option maxRecDepth 20000
set_option linter.unusedVariables false
set_option linter.unusedSimpArgs false
open Go.RowKit

/-- A morphism of the caller's own, its blocks from lo on and below hi. -/
def OwM (lo hi : Nat) (v : Value) (d : MoD) (w : World) : Prop := ∃ s, v = .agg #[.int .i64 d.1, s] ∧ I64 d.1 ∧ OwII lo hi s d.2 w
theorem OwI.alone {w : World} {base : Nat} {v : Value} {xs : List Int} (h : OwI w 0 v xs) (hb : ∀ b, v.ownBlock = some b → base ≤ b) : OwI w base v xs := by
  refine ⟨⟨h.1.1, ?_⟩, h.2⟩
  rcases h.1.2 with h0 | ⟨g, cap, cur, hv, hg, r⟩
  · exact .inl h0
  · exact .inr ⟨g, cap, cur, hv, hb g (by rw [hv]; rfl), r⟩
theorem OwII_none (w : World) (lo hi : Nat) : OwII lo hi (.slice none 0 0) [] w :=
  OwnL.nil ⟨rfl, .inl ⟨rfl, rfl⟩⟩ fun b hb => by simp [Value.ownBlock] at hb
set_option maxHeartbeats 2000000 in
theorem implWhiteheadMorphism_any (r : Int) (v : Value) (d : WhD) (w : World) (hr : I64 r) (h : ArgWh w v d) (hl : d.2.length ≤ 1073741824) :
    Calls Try.prog 45 #[.int .i64 r, v] w fun e w' => ∃ s, e = .returned (.tuple #[.agg #[.int .i64 (whM r d).1, s], .bool (whB r d)]) ∧ OwII w.heap.size w'.heap.size s (whM r d).2 w' ∧ Below w.heap.size w w' := by
  have H := Lib.hid h
  obtain ⟨s, rfl, hd, ha⟩ := h
  obtain ⟨L, xs⟩ := d
  have HS := Lib.hid ha
  obtain ⟨A, cap, rfl, hcap, hm, _⟩ := ha
  unfold maxLen at hm
  have HI := Lib.hid hd
  clear hd
  rcases eb : whB r (L, xs) with _ | _
  · have F : Hid (whM r (L, xs) = (0, [])) := Lib.hid (by unfold whM; rw [eb]; rfl)
    go_enter Try.func45, Try.ntmps45
    go_wp2_with fail
    have C := fun W (h : ArgWh W (.agg #[.int .i64 L, .slice A xs.length cap]) (L, xs)) => implIsWhitehead_any r _ (L, xs) W h hl
    simp only [eb] at C
    refine (C _ (H.out.below (by repeat (first | exact Below.refl _ _ | (refine Below.setCell ?_ (by first | omega | (simp <;> omega)) _) | (refine bel_drewN ?_ _) | (refine Below.drew ?_) | (refine Below.alloc ?_ (by first | omega | (simp <;> omega)) _))))).mono ?_
    rintro e w1 ⟨rfl, b1⟩
    clear C
    have B1 := Lib.hid b1
    obtain ⟨hc1, hf1⟩ := bcell b1
    have hz1 := b1.size
    simp at hz1
    have hzz : w.heap.size + 1 < w1.heap.size := by omega
    clear b1
    have hq0 : w1.cell? ⟨w.heap.size + 1, 0, none⟩ = some (.int .i64 0) := by rw [hc1 _ _ (by simp)]; simp [go_sem]
    have hq1 : w1.cell? ⟨w.heap.size + 1, 1, none⟩ = some (.slice none 0 0) := by rw [hc1 _ _ (by simp)]; simp [go_sem]
    go_wp2
    refine bodyPost_ret (v := .tuple #[.agg #[.int .i64 0, .slice none 0 0], .bool false]) (by simp [results, Try.results45, go_sem, hzz, hq0, hq1]) rfl ⟨_, by rw [F.out], by rw [F.out]; exact OwII_none _ _ _, ?_⟩
    exact (by repeat (first | exact Below.refl _ _ | (refine Below.setCell ?_ (by first | omega | (simp <;> omega)) _) | (refine bel_drewN ?_ _) | (refine Below.drew ?_) | (refine Below.alloc ?_ (by first | omega | (simp <;> omega)) _) | (refine Below.trans ?_ (Below.mono (Hid.out B1) (by first | omega | (simp <;> omega))))))
  · have hrk := whB_rank eb
    have hr3 := inB_iff.1 hrk.1
    have hL := (letB_iff hrk.1).1 hrk.2
    have hL1 : -3 ≤ L := by have := hL.2.1; simp at this; omega
    have hL2 : L ≤ 3 := by have := hL.2.2; simp at this; omega
    obtain ⟨n, rfl⟩ : ∃ n : Nat, r = n := ⟨r.toNat, by omega⟩
    have F : Hid (whM n (L, xs) = ((n : Int), whImgs (L, xs) n)) := Lib.hid (by unfold whM; rw [eb]; rfl)
    have HNL : Hid (wrap64 (-L) = -L) := Lib.hid (IntWalk.wrap64_in _ ⟨by omega, by omega⟩)
    have hn3 : n ≤ 3 := by omega
    have hn1 : 1 ≤ n := by omega
    clear hrk hr3 hL hr
    go_enter Try.func45, Try.ntmps45
    go_wp2_with fail
    have C := fun W (h : ArgWh W (.agg #[.int .i64 L, .slice A xs.length cap]) (L, xs)) => implIsWhitehead_any n _ (L, xs) W h hl
    simp only [eb] at C
    refine (C _ (H.out.below (by repeat (first | exact Below.refl _ _ | (refine Below.setCell ?_ (by first | omega | (simp <;> omega)) _) | (refine bel_drewN ?_ _) | (refine Below.drew ?_) | (refine Below.alloc ?_ (by first | omega | (simp <;> omega)) _))))).mono ?_
    rintro e w1 ⟨rfl, b1⟩
    clear C
    have B1 := Lib.hid b1
    obtain ⟨hc1, hf1⟩ := bcell b1
    have hz1 := b1.size
    simp at hz1
    have hzz : w.heap.size + 1 < w1.heap.size := by omega
    have hzz0 : w.heap.size < w1.heap.size := by omega
    clear b1
    go_wp2_with fail
    go_loopw [7] (fun i wr => ∃ k : Nat, k ≤ n ∧ i = .int .i64 (k + 1) ∧ ∃ s : Value, wr.cell? ⟨w1.heap.size, 0, none⟩ = some (.int .i64 n) ∧ wr.cell? ⟨w1.heap.size, 1, none⟩ = some s ∧ (∀ o, wr.frozen? ⟨w1.heap.size, o, none⟩ = false) ∧ OwII (w1.heap.size + 1) wr.heap.size s (whImgs (L, xs) k) wr ∧ Below w1.heap.size w1 wr ∧ w1.heap.size < wr.heap.size)
      (fun i _ => n + 1 - (intOf i).toNat)
    case atStart =>
      refine ⟨0, Nat.zero_le _, rfl, .slice none 0 0, by simp [go_sem], by simp [go_sem], by simp [go_sem], OwII_none _ _ _, (by repeat (first | exact Below.refl _ _ | (refine Below.setCell ?_ (by first | omega | (simp <;> omega)) _) | (refine bel_drewN ?_ _) | (refine Below.drew ?_) | (refine Below.alloc ?_ (by first | omega | (simp <;> omega)) _))), by simp⟩
    case round =>
      obtain ⟨k, hk, rfl, s, h0, h1, hf, hs, hb5, hg5⟩ := hrel
      have hlen := whImgs_len (L, xs) k
      have HB5 := Lib.hid hb5
      have HO5 := Lib.hid hs
      obtain ⟨A5, cap5, rfl, _⟩ := hs.len
      obtain ⟨hcr, hfr⟩ := bcell hb5
      by_cases hlt : k < n
      · have hr0 : wr.cell? ⟨w.heap.size, 0, none⟩ = some (.int .i64 L) := by rw [hcr _ _ hzz0, hc1 _ _ (by simp; omega)]; simp [go_sem]
        have hr1 : wr.cell? ⟨w.heap.size, 1, none⟩ = some (.slice A xs.length cap) := by rw [hcr _ _ hzz0, hc1 _ _ (by simp; omega)]; simp [go_sem]
        have hbw : Below w.heap.size w wr := by
          refine Below.trans ?_ (hb5.mono (by omega))
          exact (by repeat (first | exact Below.refl _ _ | (refine Below.setCell ?_ (by first | omega | (simp <;> omega)) _) | (refine bel_drewN ?_ _) | (refine Below.drew ?_) | (refine Below.alloc ?_ (by first | omega | (simp <;> omega)) _) | (refine Below.trans ?_ (Below.mono (Hid.out B1) (by first | omega | (simp <;> omega))))))
        have HSX := Lib.hid (HS.out.below hbw)
        have hsz0 : w.heap.size < wr.heap.size := by omega
        have HIM : Hid (whImgs (L, xs) (k + 1) = whImgs (L, xs) k ++ [whImg (L, xs) ((k : Int) + 1)]) := Lib.hid rfl
        have HWI : Hid (whImg (L, xs) ((k : Int) + 1) = (if hasB xs (-((k : Int) + 1)) then [-L] else []) ++ [(k : Int) + 1] ++ (if hasB xs ((k : Int) + 1) then [L] else [])) := Lib.hid (by unfold whImg; rw [HNL.out])
        have HI1 : Hid (I64 (-L)) := Lib.hid ⟨by omega, by omega⟩
        have HI2 : Hid (I64 ((k : Int) + 1)) := Lib.hid ⟨by omega, by omega⟩
        clear hcr hfr hc1 hf1 hs hb5
        have hlk : (whImgs (L, xs) k).length ≤ 3 := by omega
        clear hlen
        generalize whImgs (L, xs) k = acc at HO5 HIM hlk h1
        have HLI : Hid (I64 L) := Lib.hid ⟨by omega, by omega⟩
        have hcs0 := hr0
        have HOA : Hid (OwI (wr.alloc (Obj.cells #[] 3)) wr.heap.size (.slice (some ⟨wr.heap.size, 0, none⟩) 0 0) []) := Lib.hid (OwI_lit wr [] I64s_nil (by simp) (Nat.le_refl _))
        have HBA : Hid (Below wr.heap.size wr (wr.alloc (Obj.cells #[] 3))) := Lib.hid ((Below.refl _ _).alloc (Nat.le_refl _) _)
        have HEQ : Hid (∀ (W : World) (p1 p2 : Bool), hasB xs (-((k : Int) + 1)) = p1 → True) := Lib.hid fun _ _ _ _ => trivial
        rcases e1 : hasB xs (-((k : Int) + 1)) with _ | _ <;> rcases e2 : hasB xs ((k : Int) + 1) with _ | _
        all_goals
          have HW2 := HWI.out
          rw [e1, e2] at HW2
          simp only [Bool.false_eq_true, if_false, if_true, List.nil_append, List.append_nil] at HW2
          have HW3 := Lib.hid HW2
          have CN := fun W (h : ArgI W (.slice A xs.length cap) xs) => libContains_any _ xs (-((k : Int) + 1)) W h hl
          rw [e1] at CN
          have CNN := Lib.hid CN
          have CP := fun W (h : ArgI W (.slice A xs.length cap) xs) => libContains_any _ xs ((k : Int) + 1) W h hl
          rw [e2] at CP
          have CPP := Lib.hid CP
          clear HW2 CN CP e1 e2 HWI HEQ
          go_wp2_with fail
          generalize wr.alloc (Obj.cells #[] 3) = wa at HOA HBA ⊢
          have hza := HBA.out.size
          obtain ⟨hca, hfa⟩ := bcell HBA.out
          refine (CNN.out _ (HSX.out.below HBA.out)).mono ?_
          rintro e w' ⟨rfl, rfl⟩
        · go_wp2_with (first
            | (go_at_call 30; refine (CPP.out _ (HSX.out.below B1.out)).mono ?_; rintro e w' ⟨rfl, rfl⟩)
            | ((at_builtin; refine push_int rfl (.tmp 33) (.tmp 35) rfl _ _ _ (OwI.alloc HOA.out _) rfl _ _ rfl (cell_new1 _ _ _) HI2.out (by first | omega | (simp <;> omega)) (by first | omega | (simp <;> omega)) ?_; intro v1 wv1 o1 g1 p1); have B1 := Lib.hid (bel_push HBA.out (by omega) HOA.out.1 (Nat.le_refl _) g1); obtain ⟨hc1, hf1⟩ := bcell B1.out; have hz1 := B1.out.size; have O1 := Lib.hid o1; obtain ⟨A1, c1, rfl, _⟩ := OwI.form o1; clear o1 g1 p1)
            | (at_builtin; refine push_ints rfl (.tmp 47) (.tmp 49) rfl (w0 := wr) HO5.out (by omega) (B1.out.alloc (by omega) _) rfl _ _ _ rfl (O1.out.alloc _) (Nat.le_refl _) (cell_new1 _ _ _) rfl (by omega) ?_; intro vz wz oz gz; obtain ⟨Az, cz, rfl, _⟩ := OwnL.len oz; obtain ⟨hcz, hfz⟩ := cell_grown_alloc gz (b := w1.heap.size) (by omega) (fun h => by have := (HO5.out.lt h).1; omega); have hzz := gz.size; simp at hzz; have hzz2 : w1.heap.size < wz.heap.size := (by omega); have OZ := Lib.hid oz; have GZ := Lib.hid gz; clear oz gz))
          go_roundw
          case rel =>
            have q0 := (hcz 0).trans ((B1.out.cell (p := ⟨w1.heap.size, 0, none⟩) hg5).trans h0)
            have q1 := (hcz 1).trans ((B1.out.cell (p := ⟨w1.heap.size, 1, none⟩) hg5).trans h1)
            have qf := fun o => (hfz o).trans ((B1.out.frozen (p := ⟨w1.heap.size, o, none⟩) hg5).trans (hf o))
            refine ⟨k + 1, by omega, by go_num, .slice Az (acc.length + 1) cz, by simp [go_sem, q0], by simp [go_sem, q1], by simp [go_sem, qf], ?_, ?_, by simp; omega⟩
            · rw [HIM.out, HW3.out]
              have h9 := OZ.out
              simp only [List.length_append, List.length_singleton] at h9
              have h := h9.keep EI.stable (w' := wz.setCell ⟨w1.heap.size, 1, none⟩ (.slice Az (acc.length + 1) cz)) fun b hb _ => by rw [setCell_block _ _ _ b (by show b ≠ w1.heap.size; omega)]
              exact h.widen (Nat.le_refl _) (by simp)
            · exact (((HB5.out.trans (B1.out.mono (by omega))).alloc (by omega) _).grown GZ.out (by simp; omega) (fun j hj => Nat.le_of_lt (HO5.out.lt hj).1)).setCell (Nat.le_refl _) _
          case measure => simp [intOf]; omega
        · go_wp2_with (first
            | (go_at_call 30; refine (CPP.out _ (HSX.out.below B1.out)).mono ?_; rintro e w' ⟨rfl, rfl⟩)
            | ((at_builtin; refine push_int rfl (.tmp 33) (.tmp 35) rfl _ _ _ (OwI.alloc HOA.out _) rfl _ _ rfl (cell_new1 _ _ _) HI2.out (by first | omega | (simp <;> omega)) (by first | omega | (simp <;> omega)) ?_; intro v1 wv1 o1 g1 p1); have B1 := Lib.hid (bel_push HBA.out (by omega) HOA.out.1 (Nat.le_refl _) g1); obtain ⟨hc1, hf1⟩ := bcell B1.out; have hz1 := B1.out.size; have O1 := Lib.hid o1; obtain ⟨A1, c1, rfl, _⟩ := OwI.form o1; clear o1 g1 p1)
            | ((at_builtin; refine push_int rfl (.tmp 41) (.tmp 44) rfl _ _ _ (OwI.alloc O1.out _) rfl _ _ rfl (cell_new1 _ _ _) HLI.out (by first | omega | (simp <;> omega)) (by first | omega | (simp <;> omega)) ?_; intro v2 wv2 o2 g2 p2); have B2 := Lib.hid (bel_push B1.out (by omega) O1.out.1 (Nat.le_refl _) g2); obtain ⟨hc2, hf2⟩ := bcell B2.out; have hz2 := B2.out.size; have O2 := Lib.hid o2; obtain ⟨A2, c2, rfl, _⟩ := OwI.form o2; clear o2 g2 p2)
            | (at_builtin; refine push_ints rfl (.tmp 47) (.tmp 49) rfl (w0 := wr) HO5.out (by omega) (B2.out.alloc (by omega) _) rfl _ _ _ rfl (O2.out.alloc _) (Nat.le_refl _) (cell_new1 _ _ _) rfl (by omega) ?_; intro vz wz oz gz; obtain ⟨Az, cz, rfl, _⟩ := OwnL.len oz; obtain ⟨hcz, hfz⟩ := cell_grown_alloc gz (b := w1.heap.size) (by omega) (fun h => by have := (HO5.out.lt h).1; omega); have hzz := gz.size; simp at hzz; have hzz2 : w1.heap.size < wz.heap.size := (by omega); have OZ := Lib.hid oz; have GZ := Lib.hid gz; clear oz gz))
          go_roundw
          case rel =>
            have q0 := (hcz 0).trans ((B2.out.cell (p := ⟨w1.heap.size, 0, none⟩) hg5).trans h0)
            have q1 := (hcz 1).trans ((B2.out.cell (p := ⟨w1.heap.size, 1, none⟩) hg5).trans h1)
            have qf := fun o => (hfz o).trans ((B2.out.frozen (p := ⟨w1.heap.size, o, none⟩) hg5).trans (hf o))
            refine ⟨k + 1, by omega, by go_num, .slice Az (acc.length + 1) cz, by simp [go_sem, q0], by simp [go_sem, q1], by simp [go_sem, qf], ?_, ?_, by simp; omega⟩
            · rw [HIM.out, HW3.out]
              have h9 := OZ.out
              simp only [List.length_append, List.length_singleton] at h9
              have h := h9.keep EI.stable (w' := wz.setCell ⟨w1.heap.size, 1, none⟩ (.slice Az (acc.length + 1) cz)) fun b hb _ => by rw [setCell_block _ _ _ b (by show b ≠ w1.heap.size; omega)]
              exact h.widen (Nat.le_refl _) (by simp)
            · exact (((HB5.out.trans (B2.out.mono (by omega))).alloc (by omega) _).grown GZ.out (by simp; omega) (fun j hj => Nat.le_of_lt (HO5.out.lt hj).1)).setCell (Nat.le_refl _) _
          case measure => simp [intOf]; omega
        · go_wp2_with (first
            | (go_at_call 30; refine (CPP.out _ (HSX.out.below B2.out)).mono ?_; rintro e w' ⟨rfl, rfl⟩)
            | ((at_builtin; refine push_int rfl (.tmp 27) (.tmp 31) rfl _ _ _ (OwI.alloc HOA.out _) rfl _ _ rfl (cell_new1 _ _ _) HI1.out (by first | omega | (simp <;> omega)) (by first | omega | (simp <;> omega)) ?_; intro v1 wv1 o1 g1 p1); have B1 := Lib.hid (bel_push HBA.out (by omega) HOA.out.1 (Nat.le_refl _) g1); obtain ⟨hc1, hf1⟩ := bcell B1.out; have hz1 := B1.out.size; have O1 := Lib.hid o1; obtain ⟨A1, c1, rfl, _⟩ := OwI.form o1; clear o1 g1 p1)
            | ((at_builtin; refine push_int rfl (.tmp 33) (.tmp 35) rfl _ _ _ (OwI.alloc O1.out _) rfl _ _ rfl (cell_new1 _ _ _) HI2.out (by first | omega | (simp <;> omega)) (by first | omega | (simp <;> omega)) ?_; intro v2 wv2 o2 g2 p2); have B2 := Lib.hid (bel_push B1.out (by omega) O1.out.1 (Nat.le_refl _) g2); obtain ⟨hc2, hf2⟩ := bcell B2.out; have hz2 := B2.out.size; have O2 := Lib.hid o2; obtain ⟨A2, c2, rfl, _⟩ := OwI.form o2; clear o2 g2 p2)
            | (at_builtin; refine push_ints rfl (.tmp 47) (.tmp 49) rfl (w0 := wr) HO5.out (by omega) (B2.out.alloc (by omega) _) rfl _ _ _ rfl (O2.out.alloc _) (Nat.le_refl _) (cell_new1 _ _ _) rfl (by omega) ?_; intro vz wz oz gz; obtain ⟨Az, cz, rfl, _⟩ := OwnL.len oz; obtain ⟨hcz, hfz⟩ := cell_grown_alloc gz (b := w1.heap.size) (by omega) (fun h => by have := (HO5.out.lt h).1; omega); have hzz := gz.size; simp at hzz; have hzz2 : w1.heap.size < wz.heap.size := (by omega); have OZ := Lib.hid oz; have GZ := Lib.hid gz; clear oz gz))
          go_roundw
          case rel =>
            have q0 := (hcz 0).trans ((B2.out.cell (p := ⟨w1.heap.size, 0, none⟩) hg5).trans h0)
            have q1 := (hcz 1).trans ((B2.out.cell (p := ⟨w1.heap.size, 1, none⟩) hg5).trans h1)
            have qf := fun o => (hfz o).trans ((B2.out.frozen (p := ⟨w1.heap.size, o, none⟩) hg5).trans (hf o))
            refine ⟨k + 1, by omega, by go_num, .slice Az (acc.length + 1) cz, by simp [go_sem, q0], by simp [go_sem, q1], by simp [go_sem, qf], ?_, ?_, by simp; omega⟩
            · rw [HIM.out, HW3.out]
              have h9 := OZ.out
              simp only [List.length_append, List.length_singleton] at h9
              have h := h9.keep EI.stable (w' := wz.setCell ⟨w1.heap.size, 1, none⟩ (.slice Az (acc.length + 1) cz)) fun b hb _ => by rw [setCell_block _ _ _ b (by show b ≠ w1.heap.size; omega)]
              exact h.widen (Nat.le_refl _) (by simp)
            · exact (((HB5.out.trans (B2.out.mono (by omega))).alloc (by omega) _).grown GZ.out (by simp; omega) (fun j hj => Nat.le_of_lt (HO5.out.lt hj).1)).setCell (Nat.le_refl _) _
          case measure => simp [intOf]; omega
        · go_wp2_with (first
            | (go_at_call 30; refine (CPP.out _ (HSX.out.below B2.out)).mono ?_; rintro e w' ⟨rfl, rfl⟩)
            | ((at_builtin; refine push_int rfl (.tmp 27) (.tmp 31) rfl _ _ _ (OwI.alloc HOA.out _) rfl _ _ rfl (cell_new1 _ _ _) HI1.out (by first | omega | (simp <;> omega)) (by first | omega | (simp <;> omega)) ?_; intro v1 wv1 o1 g1 p1); have B1 := Lib.hid (bel_push HBA.out (by omega) HOA.out.1 (Nat.le_refl _) g1); obtain ⟨hc1, hf1⟩ := bcell B1.out; have hz1 := B1.out.size; have O1 := Lib.hid o1; obtain ⟨A1, c1, rfl, _⟩ := OwI.form o1; clear o1 g1 p1)
            | ((at_builtin; refine push_int rfl (.tmp 33) (.tmp 35) rfl _ _ _ (OwI.alloc O1.out _) rfl _ _ rfl (cell_new1 _ _ _) HI2.out (by first | omega | (simp <;> omega)) (by first | omega | (simp <;> omega)) ?_; intro v2 wv2 o2 g2 p2); have B2 := Lib.hid (bel_push B1.out (by omega) O1.out.1 (Nat.le_refl _) g2); obtain ⟨hc2, hf2⟩ := bcell B2.out; have hz2 := B2.out.size; have O2 := Lib.hid o2; obtain ⟨A2, c2, rfl, _⟩ := OwI.form o2; clear o2 g2 p2)
            | ((at_builtin; refine push_int rfl (.tmp 41) (.tmp 44) rfl _ _ _ (OwI.alloc O2.out _) rfl _ _ rfl (cell_new1 _ _ _) HLI.out (by first | omega | (simp <;> omega)) (by first | omega | (simp <;> omega)) ?_; intro v3 wv3 o3 g3 p3); have B3 := Lib.hid (bel_push B2.out (by omega) O2.out.1 (Nat.le_refl _) g3); obtain ⟨hc3, hf3⟩ := bcell B3.out; have hz3 := B3.out.size; have O3 := Lib.hid o3; obtain ⟨A3, c3, rfl, _⟩ := OwI.form o3; clear o3 g3 p3)
            | (at_builtin; refine push_ints rfl (.tmp 47) (.tmp 49) rfl (w0 := wr) HO5.out (by omega) (B3.out.alloc (by omega) _) rfl _ _ _ rfl (O3.out.alloc _) (Nat.le_refl _) (cell_new1 _ _ _) rfl (by omega) ?_; intro vz wz oz gz; obtain ⟨Az, cz, rfl, _⟩ := OwnL.len oz; obtain ⟨hcz, hfz⟩ := cell_grown_alloc gz (b := w1.heap.size) (by omega) (fun h => by have := (HO5.out.lt h).1; omega); have hzz := gz.size; simp at hzz; have hzz2 : w1.heap.size < wz.heap.size := (by omega); have OZ := Lib.hid oz; have GZ := Lib.hid gz; clear oz gz))
          go_roundw
          case rel =>
            have q0 := (hcz 0).trans ((B3.out.cell (p := ⟨w1.heap.size, 0, none⟩) hg5).trans h0)
            have q1 := (hcz 1).trans ((B3.out.cell (p := ⟨w1.heap.size, 1, none⟩) hg5).trans h1)
            have qf := fun o => (hfz o).trans ((B3.out.frozen (p := ⟨w1.heap.size, o, none⟩) hg5).trans (hf o))
            refine ⟨k + 1, by omega, by go_num, .slice Az (acc.length + 1) cz, by simp [go_sem, q0], by simp [go_sem, q1], by simp [go_sem, qf], ?_, ?_, by simp; omega⟩
            · rw [HIM.out, HW3.out]
              have h9 := OZ.out
              simp only [List.length_append, List.length_singleton] at h9
              have h := h9.keep EI.stable (w' := wz.setCell ⟨w1.heap.size, 1, none⟩ (.slice Az (acc.length + 1) cz)) fun b hb _ => by rw [setCell_block _ _ _ b (by show b ≠ w1.heap.size; omega)]
              exact h.widen (Nat.le_refl _) (by simp)
            · exact (((HB5.out.trans (B3.out.mono (by omega))).alloc (by omega) _).grown GZ.out (by simp; omega) (fun j hj => Nat.le_of_lt (HO5.out.lt hj).1)).setCell (Nat.le_refl _) _
          case measure => simp [intOf]; omega
      · obtain rfl : k = n := by omega
        have hq0 : wr.cell? ⟨w.heap.size + 1, 0, none⟩ = some (.int .i64 0) := by rw [hcr _ _ hzz, hc1 _ _ (by simp)]; simp [go_sem]
        have hq1 : wr.cell? ⟨w.heap.size + 1, 1, none⟩ = some (.slice none 0 0) := by rw [hcr _ _ hzz, hc1 _ _ (by simp)]; simp [go_sem]
        have hqf : ∀ o, wr.frozen? ⟨w.heap.size + 1, o, none⟩ = false := fun o => by rw [hfr _ _ hzz, hf1 _ _ (by simp)]; simp [go_sem]
        have hbw : Below w.heap.size w wr := by
          refine Below.trans ?_ (HB5.out.mono (by omega))
          exact (by repeat (first | exact Below.refl _ _ | (refine Below.setCell ?_ (by first | omega | (simp <;> omega)) _) | (refine bel_drewN ?_ _) | (refine Below.drew ?_) | (refine Below.alloc ?_ (by first | omega | (simp <;> omega)) _) | (refine Below.trans ?_ (Below.mono (Hid.out B1) (by first | omega | (simp <;> omega))))))
        have HBW := Lib.hid hbw
        have hzq : w.heap.size + 1 < wr.heap.size := by omega
        clear hcr hfr hc1 hf1 hs hb5 hbw
        go_wp2
        refine bodyPost_ret (v := .tuple #[.agg #[.int .i64 k, .slice A5 k cap5], .bool true]) (by simp [results, Try.results45, go_sem, hzq, hq0, hq1]) rfl ⟨_, by rw [F.out], ?_, ?_⟩
        · rw [F.out]
          have h0 := HO5.out
          rw [hlen] at h0
          have h : OwII (w1.heap.size + 1) wr.heap.size (.slice A5 k cap5) (whImgs (L, xs) k) ((wr.setCell ⟨w.heap.size + 1, 0, none⟩ (.int .i64 k)).setCell ⟨w.heap.size + 1, 1, none⟩ (.slice A5 k cap5)) :=
            h0.keep EI.stable fun b hb _ => by rw [setCell_block _ _ _ b (by show b ≠ w.heap.size + 1; omega), setCell_block _ _ _ b (by show b ≠ w.heap.size + 1; omega)]
          exact h.widen (by omega) (by simp)
        · exact (by repeat (first | exact Below.refl _ _ | (refine Below.setCell ?_ (by first | omega | (simp <;> omega)) _) | (refine bel_drewN ?_ _) | (refine Below.drew ?_) | (refine Below.alloc ?_ (by first | omega | (simp <;> omega)) _) | (refine Below.trans ?_ (Below.mono (Hid.out HBW) (by first | omega | (simp <;> omega))))))
end Go.Proofs.Ytnmkbkpegkchpaa
