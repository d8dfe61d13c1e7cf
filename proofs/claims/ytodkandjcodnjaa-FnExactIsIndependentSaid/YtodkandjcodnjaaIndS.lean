/- IsMalnormal and IsIndependent of the reference. The reference's OffDiagonal, IsMalnormal, IsIndependent. -/
import Derived.Test.YtodkandjcodnjaaCompS
namespace Go.Proofs.Ytodkandjcodnjaa
set_option maxRecDepth 20000
set_option linter.unusedVariables false
set_option linter.unusedSimpArgs false
open Go.RowKit

def ost (a : GrD) (B r : Nat) (s : List Nat × List Int) (i : Nat) : List Nat × List Int :=
  if i ∈ s.1 ∨ i / B = i % B then s else (s.1 ++ prsL a a B B (lettersL r) i, s.2 ++ [prk a a B B r i])
def offS (a : GrD) (B r k : Nat) : List Nat × List Int := (List.range k).foldl (ost a B r) ([], [])
theorem offS_succ (a : GrD) (B r k : Nat) : offS a B r (k + 1) = ost a B r (offS a B r k) k := by
  unfold offS
  rw [List.range_succ, List.foldl_append]
  rfl
theorem offS_len (a : GrD) (B r k : Nat) : (offS a B r k).2.length ≤ k := by
  induction k with
  | zero => simp [offS]
  | succ k ih =>
    rw [offS_succ]
    unfold ost
    split
    · omega
    · simp; omega
def offR (a : GrD) : List Int := if coreB a then (offS a a.2.1.toNat a.1.toNat (a.2.1.toNat * a.2.1.toNat)).2 else []
set_option maxHeartbeats 600000 in
theorem specOffDiagonal_any (va : Value) (a : GrD) (w : World) (ha : ArgG w va a) :
    Calls Try.prog 19 #[va] w fun e w' => ∃ s, e = .returned s ∧ OwI w' w.heap.size s (offR a) ∧ Below w.heap.size w w' := by
  have HGA := Lib.hid ha
  have HR0 : Hid (coreB a = false → offR a = []) := Lib.hid fun h => by unfold offR; rw [h]; rfl
  have HR1 : Hid (coreB a = true → offR a = (offS a a.2.1.toNat a.1.toNat (a.2.1.toNat * a.2.1.toNat)).2) := Lib.hid fun h1 => by unfold offR; rw [h1, if_pos rfl]
  generalize offR a = CR at *
  obtain ⟨Aa, capa, rfl⟩ : ∃ A' cap, va = .agg #[.int .i64 a.1, .int .i64 a.2.1, .slice A' a.2.2.length cap] := by
    obtain ⟨s, hv, _, _, ha⟩ := HGA.out
    obtain ⟨A', cap, rfl⟩ := ha.form
    exact ⟨A', cap, hv⟩
  clear ha
  go_enter Try.func19, Try.ntmps19
  go_wp2_with fail
  have bx : Below w.heap.size w ((w.alloc (Obj.cells #[Value.int IntKind.i64 a.1, Value.int IntKind.i64 a.2.1, .slice Aa a.2.2.length capa] 36)).alloc (Obj.cells #[] 3)) := (by repeat (first | exact Below.refl _ _ | (refine Below.setCell ?_ (by first | omega | (simp <;> omega)) _) | (refine bel_drewN ?_ _) | (refine Below.drew ?_) | (refine Below.alloc ?_ (by first | omega | (simp <;> omega)) _)))
  obtain ⟨W0, hW0⟩ : ∃ W, W = (w.alloc (Obj.cells #[Value.int IntKind.i64 a.1, Value.int IntKind.i64 a.2.1, .slice Aa a.2.2.length capa] 36)).alloc (Obj.cells #[] 3) := ⟨_, rfl⟩
  have oE : OwI W0 (w.heap.size + 1) (.slice (some ⟨w.heap.size + 1, 0, none⟩) 0 0) [] := by
    rw [hW0]
    exact OwI_litN _ [] (w.heap.size + 1) (by simp) (fun _ h => by cases h) (by simp) (Nat.le_refl _)
  rw [← hW0] at bx ⊢
  have hsW : W0.heap.size = w.heap.size + 1 + 1 := by rw [hW0]; simp
  have A0 : Hid (W0.cell? ⟨w.heap.size, 0, none⟩ = some (.int .i64 a.1)) := Lib.hid (by rw [hW0]; simp [go_sem])
  have A1 : Hid (W0.cell? ⟨w.heap.size, 1, none⟩ = some (.int .i64 a.2.1)) := Lib.hid (by rw [hW0]; simp [go_sem])
  have A2 : Hid (W0.cell? ⟨w.heap.size, 2, none⟩ = some (.slice Aa a.2.2.length capa)) := Lib.hid (by rw [hW0]; simp [go_sem])
  clear hW0
  have hl0 : w.heap.size < W0.heap.size := by omega
  have BX := Lib.hid bx
  have HSW := Lib.hid hsW
  have OE := Lib.hid oE
  have HAA : Hid (∀ W, Below W0.heap.size W0 W → ArgG W (.agg #[.int .i64 a.1, .int .i64 a.2.1, .slice Aa a.2.2.length capa]) a) := Lib.hid fun W hb => HGA.out.below (BX.out.trans (hb.mono (by omega)))
  clear bx oE hsW
  refine (specIsSubgroup_any _ a W0 (HAA.out _ (Below.refl _ _))).mono ?_
  rintro e w2 ⟨rfl, b1⟩
  have HB2 := Lib.hid b1
  have q1 := (b1.cell (p := ⟨w.heap.size, 1, none⟩) hl0).trans A1.out
  clear b1
  rcases e1 : coreB a with _ | _
  · have HR : Hid (CR = []) := Lib.hid (HR0.out e1)
    clear e1
    go_wp2
    exact bodyPost_ret (v := .slice (some ⟨w.heap.size + 1, 0, none⟩) 0 0) (by simp [results, Try.results19]) rfl ⟨_, rfl, by rw [HR.out]; exact (OE.out.below HB2.out).mono (by omega), BX.out.trans (HB2.out.mono (by omega))⟩
  have h2 := two_of e1 e1
  have HR := Lib.hid (HR1.out e1)
  have hr13 := (grB_parts h2.ga).1
  obtain ⟨B, hB⟩ : ∃ B, B = a.2.1.toNat := ⟨_, rfl⟩
  obtain ⟨r, hr⟩ : ∃ r, r = a.1.toNat := ⟨_, rfl⟩
  rw [← hB, ← hr] at HR
  rw [← hB] at h2
  obtain ⟨⟨hB1, hB2⟩, _⟩ := h2.bd
  obtain ⟨n, hn⟩ : ∃ n, n = B * B := ⟨_, rfl⟩
  have hn1 : n ≤ 1600 := by rw [hn]; exact Nat.mul_le_mul hB2 hB2
  have hra : a.1 = (r : Int) := by omega
  have hr3 : r ≤ 3 := by omega
  have HRA := Lib.hid hra
  have HSA := Lib.hid h2.sa
  have hmul : IntKind.i64.wrap ((B : Int) * (B : Int)) = (n : Int) := by
    have e : (B : Int) * (B : Int) = (n : Int) := by rw [hn]; simp
    rw [e, IntKind.wrap_i64]
    omega
  have H2 := Lib.hid h2
  have HN := Lib.hid hn
  rw [h2.sa] at q1
  have HAA2 : Hid (∀ W, Below (w.heap.size + 1) W0 W → ArgG W (.agg #[.int .i64 r, .int .i64 B, .slice Aa a.2.2.length capa]) a) := Lib.hid fun W hb => by
    rw [← hra, ← h2.sa]
    exact HGA.out.below (BX.out.trans (hb.mono (by omega)))
  have C0 : Hid (W0.cell? ⟨w.heap.size, 0, none⟩ = some (.int .i64 r)) := Lib.hid (by rw [← hra]; exact A0.out)
  have C1 : Hid (W0.cell? ⟨w.heap.size, 1, none⟩ = some (.int .i64 B)) := Lib.hid (by rw [← h2.sa]; exact A1.out)
  clear e1 h2 hB hr hn hra hr13
  obtain ⟨i0, hi0, hz0, hz1, hz2⟩ := info_parts bool_info
  go_wp2_with (at_make; refine wpList_make_full _ rfl _ _ 51 rfl w2.heap.size 4 i0 (.bool false) 1 Try.underlying51 hi0 hz0 hz1 _ _ _ _ n rfl rfl rfl rfl (by rw [hz2]; omega) (by unfold maxLen; omega) (Nat.le_refl _) ?_)
  intro w3 hown0 hgrow0
  have own0 : OwB w3 w2.heap.size (.slice (some ⟨w2.heap.size, 0, none⟩) n n) (seenL n []) := by
    unfold OwB
    rw [seenL_len, seenL_nil]
    have : bools (List.replicate n false) = List.replicate n (Value.bool false) := by simp [bools]
    rw [this]
    simpa [toList_madeCells_one] using hown0
  have hP2 : w2.heap.size < w3.heap.size := (own0.lt w2.heap.size rfl).2
  have B23 : Below w2.heap.size w2 w3 := (Below.refl w2.heap.size w2).grown hgrow0 (Nat.le_refl _) (fun k h => by cases h)
  have OB0 := Lib.hid own0
  have HB3 := Lib.hid (HB2.out.trans (B23.mono HB2.out.size))
  have hs2 := HB2.out.size
  have OE3 := Lib.hid ((OE.out.below HB2.out).below B23)
  clear hown0 own0 hgrow0 B23 q1
  go_wp2
  go_loopw [3, 5] (fun out i wo => ∃ k : Nat, k ≤ n ∧ i = .int .i64 k ∧ OwI wo (w.heap.size + 1) out (offS a B r k).2 ∧ OwB wo w2.heap.size (.slice (some ⟨w2.heap.size, 0, none⟩) n n) (seenL n (offS a B r k).1) ∧ out.ownBlock ≠ some w2.heap.size ∧ Below (w.heap.size + 1) W0 wo ∧ w2.heap.size < wo.heap.size) (fun _ i _ => n - (intOf i).toNat)
  case atStart => exact ⟨0, Nat.zero_le _, rfl, OE3.out, OB0.out, by have := HSW.out; simp [Value.ownBlock]; omega, HB3.out.mono (by have := HSW.out; omega), hP2⟩
  case round =>
    obtain ⟨k, hk, rfl, hown, hob, hne, hbel, hPw⟩ := hrel
    obtain ⟨wo, rfl⟩ : ∃ wo : World, wo = wr := ⟨_, rfl⟩
    have HO := Lib.hid hown
    have HOB := Lib.hid hob
    have HNE := Lib.hid hne
    have HB4 := Lib.hid hbel
    have hcl := offS_len a B r k
    obtain ⟨A1', cap1, rfl, _⟩ := hown.form
    by_cases hlt : k < n
    · have hcell := hob.cellAt k (by rw [seenL_len]; exact hlt)
      rw [seenL_get n _ k hlt] at hcell
      have hki : (k : Int) < (n : Int) := by omega
      have CS := Lib.hid (offS_succ a B r k)
      have hPK := prk_range H2.out hr3 (p := k) (by rw [← HN.out]; exact hlt)
      have HPE : Hid (prk a a B B r k = (edgL a.2.2 a.2.2 B r (prsL a a B B (lettersL r) k) : Int) - (prsL a a B B (lettersL r) k).length + 1) := Lib.hid rfl
      have HPL := Lib.hid (prs_lt H2.out (ls := lettersL r) (p := k) (by rw [← HN.out]; exact hlt))
      obtain ⟨un, hun⟩ : ∃ un, un = k / B := ⟨_, rfl⟩
      obtain ⟨vn, hvn⟩ : ∃ vn, vn = k % B := ⟨_, rfl⟩
      have hun2 : un ≤ 1600 := by rw [hun]; exact Nat.le_trans (Nat.div_le_self _ _) (by omega)
      have hdiv : wrap64 ((k : Int) / (B : Int)) = (un : Int) := by
        have : (k : Int) / (B : Int) = (un : Int) := by rw [hun]; rfl
        rw [this]
        exact IntWalk.wrap64_in _ ⟨by omega, by omega⟩
      have hdiv2 : IntKind.i64.wrap ((k : Int) / (B : Int)) = (un : Int) := by rw [wrap_i64_eq]; exact hdiv
      have hmod : (k : Int) % (B : Int) = (vn : Int) := by rw [hvn]; rfl
      have hmod2 : Int.tmod (k : Int) (B : Int) = (vn : Int) := by rw [remB, hvn]
      have hB0 : ¬ B = 0 := by omega
      have hB0' : ¬ (B : Int) = 0 := by omega
      have HLP := Lib.hid (fun W h h' => l14Pairs_any (.agg #[.int .i64 r, .int .i64 B, .slice Aa a.2.2.length capa]) (.agg #[.int .i64 r, .int .i64 B, .slice Aa a.2.2.length capa]) a a B B r k un vn W h h' H2.out HRA.out HRA.out (by rw [← HN.out]; exact hlt) (by rw [hun, hvn]; exact mod_of))
      have HLE := Lib.hid (fun (vo : Value) W h h' ho => l14Edges_any (.agg #[.int .i64 r, .int .i64 B, .slice Aa a.2.2.length capa]) (.agg #[.int .i64 r, .int .i64 B, .slice Aa a.2.2.length capa]) vo a a B B r (prsL a a B B (lettersL r) k) W h h' ho H2.out HRA.out HRA.out HPL.out hPK.1)
      have HSELF := Lib.hid (prs_self (ls := lettersL r) (p := k) H2.out)
      rw [← HN.out] at HPL
      obtain ⟨hPK1, hPK2⟩ := hPK
      generalize offS a B r k = ST at *
      obtain ⟨M, O⟩ := ST
      simp only at HO HOB hcl hcell ⊢
      have HUV : Hid (k / B = k % B ↔ un = vn) := Lib.hid (by rw [hun, hvn])
      clear hown hob hne hbel hun hvn
      have hwl0 : w.heap.size < w.heap.size + 1 := by omega
      have hPk : w2.heap.size < wo.heap.size := hPw
      have hw0 : w.heap.size < wo.heap.size := by have := HSW.out; have := HB2.out.size; omega
      have q1 := (HB4.out.cell (p := ⟨w.heap.size, 1, none⟩) hwl0).trans C1.out
      rcases hmk : decide (k ∈ M) with _ | _
      rotate_left
      · have F : Hid (offS a B r (k + 1) = (M, O)) := Lib.hid (by rw [CS.out]; unfold ost; rw [if_pos (.inl (by simpa using hmk))])
        rw [hmk] at hcell
        go_wp2_with fail
        have f0 := BelW.cell hcell hPk
        have f1 := BelW.cell q1 hw0
        (refine wp_region_quiet_bel (by kernel_rfl) (by kernel_rfl) ?_; (repeat (go_big_quiet_step (fail))); refine wpQuiet_nil ?_; intro wv hw'; obtain ⟨pq, hw''⟩ := hw'; have bv := pq.h; rw [← hw''] at bv; clear hw'' pq)
        have HOv := Lib.hid (HO.out.below bv)
        have HOBv := Lib.hid (HOB.out.below bv)
        have HBv := Lib.hid (HB4.out.trans (bv.mono (by omega)))
        have sv := bv.size
        clear bv f0 f1 hcell q1
        go_wp2
        go_roundw
        case rel => exact ⟨k + 1, by omega, by go_num, by rw [F.out]; exact HOv.out, by rw [F.out]; exact HOBv.out, HNE.out, HBv.out, by omega⟩
        case measure => simp [intOf]; omega
      rw [hmk] at hcell
      rcases huv : ((un : Int) == (vn : Int)) with _ | _
      rotate_left
      · have F : Hid (offS a B r (k + 1) = (M, O)) := Lib.hid (by rw [CS.out]; unfold ost; rw [if_pos (.inr (HUV.out.2 (Int.ofNat_inj.mp (eq_of_beq huv))))])
        go_wp2_with fail
        have f0 := BelW.cell hcell hPk
        have f1 := BelW.cell q1 hw0
        (refine wp_region_quiet_bel (by kernel_rfl) (by kernel_rfl) ?_; (repeat (go_big_quiet_step (fail))); refine wpQuiet_nil ?_; intro wv hw'; obtain ⟨pq, hw''⟩ := hw'; have bv := pq.h; rw [← hw''] at bv; clear hw'' pq)
        have HOv := Lib.hid (HO.out.below bv)
        have HOBv := Lib.hid (HOB.out.below bv)
        have HBv := Lib.hid (HB4.out.trans (bv.mono (by omega)))
        have sv := bv.size
        clear bv f0 f1 hcell q1
        go_wp2
        go_roundw
        case rel => exact ⟨k + 1, by omega, by go_num, by rw [F.out]; exact HOv.out, by rw [F.out]; exact HOBv.out, HNE.out, HBv.out, by omega⟩
        case measure => simp [intOf]; omega
      have F : Hid (offS a B r (k + 1) = (M ++ prsL a a B B (lettersL r) k, O ++ [prk a a B B r k])) := Lib.hid (by
        rw [CS.out]
        unfold ost
        rw [if_neg (fun h => h.elim (by simpa using hmk) (fun h => by have := HUV.out.1 h; simp [this] at huv))])
      go_wp2_with fail
      have f0 := BelW.cell hcell hPk
      have f1 := BelW.cell q1 hw0
      (refine wp_region_quiet_bel (by kernel_rfl) (by kernel_rfl) ?_; (repeat (go_big_quiet_step (fail))); refine wpQuiet_nil ?_; intro wv hw'; obtain ⟨pq, hw''⟩ := hw'; have bv := pq.h; rw [← hw''] at bv; clear hw'' pq)
      replace HO := Lib.hid (HO.out.below bv)
      replace HOB := Lib.hid (HOB.out.below bv)
      replace HB4 := Lib.hid (HB4.out.trans (bv.mono (by omega)))
      have sv := bv.size
      clear bv f0 f1 hcell q1
      replace hPw : w2.heap.size < wv.heap.size := by omega
      clear hmk CS huv
      rw [HPE.out] at F
      generalize prsL a a B B (lettersL r) k = PS at *
      generalize edgL a.2.2 a.2.2 B r PS = EN at *
      have q0 := (HB4.out.cell (p := ⟨w.heap.size, 0, none⟩) hwl0).trans C0.out
      have q1 := (HB4.out.cell (p := ⟨w.heap.size, 1, none⟩) hwl0).trans C1.out
      have q2 := (HB4.out.cell (p := ⟨w.heap.size, 2, none⟩) hwl0).trans A2.out
      go_wp2_with fail
      refine wp_region_held_drew (S := fun w' => w'.cell? ⟨w.heap.size, 0, none⟩ = some (.int .i64 r) ∧ w'.cell? ⟨w.heap.size, 1, none⟩ = some (.int .i64 B) ∧ w'.cell? ⟨w.heap.size, 2, none⟩ = some (.slice Aa a.2.2.length capa)) (by kernel_rfl) ⟨q0, q1, q2⟩ (fun hHeld => ?_)
      (refine wpAnyH_take (i := 0) (v := ?_) rfl (by kernel_rfl) (by kernel_rfl) (by kernel_rfl) (fun _ _ _ h => h) (Or.inl ⟨by rfl, ?_⟩) (by assumption) ?_; rotate_left; focus (intro ww hSw; (try dsimp only at hSw); go_simp; try with_reducible rfl); (try simp only [Act.put, List.setIfInBounds_toArray, List.set_cons_zero, List.set_cons_succ])); (refine wpAnyH_take (i := 1) (v := ?_) rfl (by kernel_rfl) (by kernel_rfl) (by kernel_rfl) (fun _ _ _ h => h) (Or.inl ⟨by rfl, ?_⟩) (by assumption) ?_; rotate_left; focus (intro ww hSw; (try dsimp only at hSw); go_simp; try with_reducible rfl); (try simp only [Act.put, List.setIfInBounds_toArray, List.set_cons_zero, List.set_cons_succ])); (refine wpAnyH_take (i := 2) (v := ?_) rfl (by kernel_rfl) (by kernel_rfl) (by kernel_rfl) (fun _ _ _ h => h) (Or.inl ⟨by rfl, ?_⟩) (by assumption) ?_; rotate_left; focus (intro ww hSw; (try dsimp only at hSw); go_simp; try with_reducible rfl); (try simp only [Act.put, List.setIfInBounds_toArray, List.set_cons_zero, List.set_cons_succ])); (refine wpAnyH_take (i := 3) (v := ?_) rfl (by kernel_rfl) (by kernel_rfl) (by kernel_rfl) (fun _ _ _ h => h) (Or.inl ⟨by rfl, ?_⟩) (by assumption) ?_; rotate_left; focus (intro ww hSw; (try dsimp only at hSw); go_simp; try with_reducible rfl); (try simp only [Act.put, List.setIfInBounds_toArray, List.set_cons_zero, List.set_cons_succ])); (refine wpAnyH_take (i := 4) (v := ?_) rfl (by kernel_rfl) (by kernel_rfl) (by kernel_rfl) (fun _ _ _ h => h) (Or.inl ⟨by rfl, ?_⟩) (by assumption) ?_; rotate_left; focus (intro ww hSw; (try dsimp only at hSw); go_simp; try with_reducible rfl); (try simp only [Act.put, List.setIfInBounds_toArray, List.set_cons_zero, List.set_cons_succ])); (refine wpAnyH_take (i := 5) (v := ?_) rfl (by kernel_rfl) (by kernel_rfl) (by kernel_rfl) (fun _ _ _ h => h) (Or.inl ⟨by rfl, ?_⟩) (by assumption) ?_; rotate_left; focus (intro ww hSw; (try dsimp only at hSw); go_simp; try with_reducible rfl); (try simp only [Act.put, List.setIfInBounds_toArray, List.set_cons_zero, List.set_cons_succ])); (refine wpAnyH_take (i := 6) (v := ?_) rfl (by kernel_rfl) (by kernel_rfl) (by kernel_rfl) (fun _ _ _ h => h) (Or.inl ⟨by rfl, ?_⟩) (by assumption) ?_; rotate_left; focus (intro ww hSw; (try dsimp only at hSw); go_simp; try with_reducible rfl); (try simp only [Act.put, List.setIfInBounds_toArray, List.set_cons_zero, List.set_cons_succ])); (refine wpAnyH_take (i := 7) (v := ?_) rfl (by kernel_rfl) (by kernel_rfl) (by kernel_rfl) (fun _ _ _ h => h) (Or.inl ⟨by rfl, ?_⟩) (by assumption) ?_; rotate_left; focus (intro ww hSw; (try dsimp only at hSw); go_simp; try with_reducible rfl); (try simp only [Act.put, List.setIfInBounds_toArray, List.set_cons_zero, List.set_cons_succ])); (refine wpAnyH_take (i := 8) (v := ?_) rfl (by kernel_rfl) (by kernel_rfl) (by kernel_rfl) (fun _ _ _ h => h) (Or.inl ⟨by rfl, ?_⟩) (by assumption) ?_; rotate_left; focus (intro ww hSw; (try dsimp only at hSw); go_simp; try with_reducible rfl); (try simp only [Act.put, List.setIfInBounds_toArray, List.set_cons_zero, List.set_cons_succ])); (refine wpAnyH_take (i := 9) (v := ?_) rfl (by kernel_rfl) (by kernel_rfl) (by kernel_rfl) (fun _ _ _ h => h) (Or.inl ⟨by rfl, ?_⟩) (by assumption) ?_; rotate_left; focus (intro ww hSw; (try dsimp only at hSw); go_simp; try with_reducible rfl); (try simp only [Act.put, List.setIfInBounds_toArray, List.set_cons_zero, List.set_cons_succ]))
      refine wpAnyH_ready (rs := [10]) (by kernel_rfl) (by simp) ?_
      refine AllReadyH.cons rfl (fun K hK => ?_) AllReadyH.nil
      go_simp
      refine (HLP.out _ (HAA2.out _ HB4.out.drew) (HAA2.out _ HB4.out.drew)).mono ?_
      rintro e' w5 ⟨s5, rfl, o5, b5⟩
      have O5 := Lib.hid o5
      have HO5 := Lib.hid (HO.out.drew.below b5)
      have HOB5 := Lib.hid ((show OwB wv.drew w2.heap.size _ _ from HOB.out).below b5)
      have hs5 : wv.heap.size ≤ w5.heap.size := b5.size
      have HB5 := Lib.hid (HB4.out.drew.trans (b5.mono (show w.heap.size + 1 ≤ wv.heap.size by have := HSW.out; omega)))
      have k0 := (HB5.out.cell (p := ⟨w.heap.size, 0, none⟩) hwl0).trans C0.out
      have k1 := (HB5.out.cell (p := ⟨w.heap.size, 1, none⟩) hwl0).trans C1.out
      have k2 := (HB5.out.cell (p := ⟨w.heap.size, 2, none⟩) hwl0).trans A2.out
      clear b5 o5
      refine hK.out _ _ ⟨k0, k1, k2⟩ (fun hHeld2 => ?_)
      clear hK hHeld
      (try simp only [Act.put, List.setIfInBounds_toArray, List.set_cons_zero, List.set_cons_succ])
      (refine wpAnyH_take (i := 11) (v := ?_) rfl (by kernel_rfl) (by kernel_rfl) (by kernel_rfl) (fun _ _ _ h => h) (Or.inl ⟨by rfl, ?_⟩) (by assumption) ?_; rotate_left; focus (intro ww hSw; (try dsimp only at hSw); go_simp; try with_reducible rfl); (try simp only [Act.put, List.setIfInBounds_toArray, List.set_cons_zero, List.set_cons_succ]))
      refine wpAnyH_done (by kernel_rfl) ?_ _
      clear hHeld2
      simp only [Act.put, List.setIfInBounds_toArray, List.set_cons_zero, List.set_cons_succ]
      obtain ⟨gp, capp, rfl, hgp1, hgp2, hcp⟩ : ∃ gp capp, s5 = .slice (some ⟨gp, 0, none⟩) PS.length capp ∧ wv.heap.size ≤ gp ∧ gp < w5.heap.size ∧ PS.length ≤ capp := by
        obtain ⟨Ap, capp, e, h1, _, _, hf⟩ := O5.out.form
        rw [ns_len] at e h1 hf
        obtain ⟨gp, hg, h2, h3⟩ := hf (List.length_pos_of_mem HSELF.out)
        exact ⟨gp, capp, by rw [e, hg], h2, h3, h1⟩
      have O5R := Lib.hid O5.out.rd
      have hgP : gp ≠ w2.heap.size := by omega
      clear O5 k0 k1 k2 q0 q1 q2
      go_wp2
      go_loopw [7] (fun j wr => ∃ m : Nat, m ≤ PS.length ∧ j = .int .i64 m ∧ OwB wr w2.heap.size (.slice (some ⟨w2.heap.size, 0, none⟩) n n) (seenL n (M ++ PS.take m)) ∧ w5.grownBy wr (some w2.heap.size)) (fun j _ => PS.length - (intOf j).toNat)
      case atStart => exact ⟨0, Nat.zero_le _, rfl, by simpa using HOB5.out, World.grownBy.refl _ _⟩
      case round =>
        obtain ⟨m, hm, rfl, hob, hgr⟩ := hrel
        have HG := Lib.hid hgr
        have HOBR := Lib.hid hob
        have hsr := hgr.size
        by_cases hlt2 : m < PS.length
        · obtain ⟨q, hq⟩ : ∃ q, PS[m] = q := ⟨_, rfl⟩
          have hqn : q < n := by rw [← hq]; exact HPL.out _ (by simp)
          have hrd := O5R.out.grown hgr (fun x hx hx' => by simp [Value.ownBlock] at hx hx'; omega)
          obtain ⟨bq', offq, hAq, hbq, hcq⟩ := hrd.at (by rw [ns_len]; omega)
          obtain ⟨rfl, rfl⟩ : gp = bq' ∧ 0 = offq := by simpa using hAq
          have c0 := hcq m (by rw [ns_len]; exact hlt2)
          rw [ns_get PS m hlt2, hq, Nat.zero_add] at c0
          have hqi : (q : Int) < (n : Int) := by omega
          have cq := hob.cellAt q (by rw [seenL_len]; exact hqn)
          have fq := hob.free q
          generalize (seenL n (M ++ PS.take m))[q]'(by rw [seenL_len]; exact hqn) = z0 at cq
          have hset := hob.set q true
          rw [seenL_set, List.append_assoc] at hset
          have HTK : Hid (PS.take m ++ [q] = PS.take (m + 1)) := Lib.hid (by rw [List.take_succ_eq_append_getElem hlt2, hq])
          rw [HTK.out] at hset
          have HSET := Lib.hid hset
          clear hrd hcq hAq hq hob hgr hset HTK
          go_wp2
          go_roundw
          case rel => exact ⟨m + 1, by omega, by go_num, HSET.out.1, HG.out.trans HSET.out.2⟩
          case measure => simp [intOf]; omega
        · obtain rfl : m = PS.length := by omega
          rw [List.take_length] at hob HOBR
          have hwlt : w.heap.size + 1 ≤ w2.heap.size := by have := HSW.out; omega
          have HB6 : Hid (Below (w.heap.size + 1) W0 wr) := Lib.hid (HB5.out.grown hgr (by omega) (fun x hx => by cases hx; omega))
          have k0 := (HB6.out.cell (p := ⟨w.heap.size, 0, none⟩) hwl0).trans C0.out
          have k1 := (HB6.out.cell (p := ⟨w.heap.size, 1, none⟩) hwl0).trans C1.out
          have k2 := (HB6.out.cell (p := ⟨w.heap.size, 2, none⟩) hwl0).trans A2.out
          have hrd := O5R.out.grown hgr (fun x hx hx' => by simp [Value.ownBlock] at hx hx'; omega)
          have HRD := Lib.hid hrd
          have HO6 := Lib.hid (HO5.out.kept hgr (.inr HNE.out))
          clear hob hgr hrd
          go_wp2_with fail
          refine (HLE.out _ wr (HAA2.out _ HB6.out) (HAA2.out _ HB6.out) HRD.out).mono ?_
          rintro e w7 ⟨rfl, b7⟩
          have s7 := b7.size
          have hws : w.heap.size + 1 ≤ wr.heap.size := by omega
          have HB7 := Lib.hid (HB6.out.trans (b7.mono hws))
          have HO7 := Lib.hid (HO6.out.below b7)
          have HOB7 := Lib.hid (HOBR.out.below b7)
          clear b7 k0 k1 k2
          have hw1 : IntKind.i64.wrap ((EN : Int) - (PS.length : Int)) = (EN : Int) - (PS.length : Int) := by rw [IntKind.wrap_i64]; omega
          have hw2 : IntKind.i64.wrap ((EN : Int) - (PS.length : Int) + 1) = (EN : Int) - (PS.length : Int) + 1 := by rw [IntKind.wrap_i64]; omega
          have HY : Hid (I64 ((EN : Int) - (PS.length : Int) + 1)) := Lib.hid ⟨by omega, by omega⟩
          have hPw7 : w2.heap.size < w7.heap.size := by omega
          go_wp2_with (at_builtin; refine push_int rfl (.tmp 63) (.tmp 72) rfl _ _ _ (OwI.alloc HO7.out _) rfl _ _ rfl (cell_new1 _ _ _) HY.out (by first | omega | (simp <;> omega)) (by first | omega | (simp <;> omega)) ?_; intro v9 wv9 o9 g9 p9)
          have hz9 := g9.size
          simp at hz9
          go_roundw
          case rel =>
            refine ⟨k + 1, by omega, by go_num, by rw [F.out]; exact o9, by rw [F.out]; exact (HOB7.out.below ((Below.refl _ _).alloc (Nat.le_refl _) _)).kept g9 (.inr fun e => HNE.out e.symm), fun e => ?_, bel_push HB7.out (by omega) HO7.out.1 (Nat.le_refl _) g9, by omega⟩
            rcases p9 with p9 | p9
            · rw [p9] at e; exact HNE.out e
            · rw [p9] at e; simp at e; omega
          case measure => simp [intOf]; omega
    · obtain rfl : k = n := by omega
      have F : Hid (CR = (offS a B r k).2) := Lib.hid (by rw [HR.out, ← HN.out])
      have HBW : Hid (Below w.heap.size w wo) := Lib.hid (BX.out.trans (HB4.out.mono (by omega)))
      clear hown hob hne hbel
      generalize offS a B r k = ST at *
      obtain ⟨M, O⟩ := ST
      go_wp2
      exact bodyPost_ret (v := .slice A1' O.length cap1) (by simp [results, Try.results19]) rfl ⟨_, rfl, by rw [F.out]; exact HO.out.mono (by omega), HBW.out⟩
def allN (l : List Int) : Bool := l.all fun x => decide (x ≤ 0)
theorem allN_step {l : List Int} {k : Nat} (h : k < l.length) (h1 : allN (l.take k) = true) (h2 : ¬ 0 < l[k]) : allN (l.take (k + 1)) = true := by
  unfold allN at *
  rw [List.take_succ_eq_append_getElem h, List.all_append, h1]
  simp
  omega
theorem allN_hit {l : List Int} {k : Nat} (h : k < l.length) (h2 : 0 < l[k]) : allN l = false := by
  unfold allN
  rw [List.all_eq_false]
  exact ⟨l[k], by simp, by simp; omega⟩
def malB (g : GrD) : Bool := allN (offR g) && coreB g
def indB (a b : GrD) : Bool := allN (compR a b) && (coreB a && coreB b && decide (a.1 = b.1))
theorem offR_len {g : GrD} : (offR g).length ≤ 1073741824 := by
  unfold offR
  split
  · rename_i h
    have h1 := (grB_parts (foldB_parts (coreB_foldC h)).1).2.1
    have h2 := offS_len g g.2.1.toNat g.1.toNat (g.2.1.toNat * g.2.1.toNat)
    have h3 : g.2.1.toNat * g.2.1.toNat ≤ 40 * 40 := Nat.mul_le_mul (by omega) (by omega)
    omega
  · simp
theorem compR_len {a b : GrD} : (compR a b).length ≤ 1073741824 := by
  unfold compR
  split
  · rename_i h
    simp only [Bool.and_eq_true, decide_eq_true_eq] at h
    have h1 := (grB_parts (foldB_parts (coreB_foldC h.1.1)).1).2.1
    have h1' := (grB_parts (foldB_parts (coreB_foldC h.1.2)).1).2.1
    have h2 := compS_len a b a.2.1.toNat b.2.1.toNat a.1.toNat (a.2.1.toNat * b.2.1.toNat)
    have h3 : a.2.1.toNat * b.2.1.toNat ≤ 40 * 40 := Nat.mul_le_mul (by omega) (by omega)
    omega
  · simp
set_option maxHeartbeats 1000000 in
theorem specIsMalnormal_any (va : Value) (a : GrD) (w : World) (ha : ArgG w va a) :
    Calls Try.prog 17 #[va] w fun e w' => e = .returned (.bool (malB a)) ∧ Below w.heap.size w w' := by
  have HGA := Lib.hid ha
  obtain ⟨Aa, capa, rfl⟩ : ∃ A' cap, va = .agg #[.int .i64 a.1, .int .i64 a.2.1, .slice A' a.2.2.length cap] := by
    obtain ⟨s, hv, _, _, ha⟩ := HGA.out
    obtain ⟨A', cap, rfl⟩ := ha.form
    exact ⟨A', cap, hv⟩
  have HM : Hid (malB a = (allN (offR a) && coreB a)) := Lib.hid rfl
  have hll := offR_len (g := a)
  have HOD := Lib.hid (fun W h => specOffDiagonal_any (.agg #[.int .i64 a.1, .int .i64 a.2.1, .slice Aa a.2.2.length capa]) a W h)
  generalize malB a = mb at *
  generalize offR a = L at *
  clear ha
  go_enter Try.func17, Try.ntmps17
  go_wp2_with fail
  have bx : Below w.heap.size w (w.alloc (Obj.cells #[Value.int IntKind.i64 a.1, Value.int IntKind.i64 a.2.1, .slice Aa a.2.2.length capa] 36)) := (by repeat (first | exact Below.refl _ _ | (refine Below.setCell ?_ (by first | omega | (simp <;> omega)) _) | (refine bel_drewN ?_ _) | (refine Below.drew ?_) | (refine Below.alloc ?_ (by first | omega | (simp <;> omega)) _)))
  have l0 : (w.alloc (Obj.cells #[Value.int IntKind.i64 a.1, Value.int IntKind.i64 a.2.1, .slice Aa a.2.2.length capa] 36)).cell? ⟨w.heap.size, 0, none⟩ = some (.int .i64 a.1) := by simp [go_sem]
  have l1 : (w.alloc (Obj.cells #[Value.int IntKind.i64 a.1, Value.int IntKind.i64 a.2.1, .slice Aa a.2.2.length capa] 36)).cell? ⟨w.heap.size, 1, none⟩ = some (.int .i64 a.2.1) := by simp [go_sem]
  have l2 : (w.alloc (Obj.cells #[Value.int IntKind.i64 a.1, Value.int IntKind.i64 a.2.1, .slice Aa a.2.2.length capa] 36)).cell? ⟨w.heap.size, 2, none⟩ = some (.slice Aa a.2.2.length capa) := by simp [go_sem]
  have sA : w.heap.size < (w.alloc (Obj.cells #[Value.int IntKind.i64 a.1, Value.int IntKind.i64 a.2.1, .slice Aa a.2.2.length capa] 36)).heap.size := by simp
  generalize w.alloc (Obj.cells #[Value.int IntKind.i64 a.1, Value.int IntKind.i64 a.2.1, .slice Aa a.2.2.length capa] 36) = W at bx l0 l1 l2 sA ⊢
  have BX := Lib.hid bx
  have HA : Hid (∀ w', Below W.heap.size W w' → ArgG w' (.agg #[.int .i64 a.1, .int .i64 a.2.1, .slice Aa a.2.2.length capa]) a) := Lib.hid fun w' hb => HGA.out.below (BX.out.trans (hb.mono (by omega)))
  refine (HOD.out W (HA.out _ (Below.refl _ _))).mono ?_
  rintro e w1 ⟨s1, rfl, o1, b1⟩
  obtain ⟨Al, capl, rfl, hcl, hml, _⟩ := OwI.form o1
  have O1 := Lib.hid o1.rd
  have B1 := Lib.hid b1
  have L0 := Lib.hid l0
  have L1 := Lib.hid l1
  have L2 := Lib.hid l2
  clear bx o1 b1 l0 l1 l2
  go_wp2
  go_loopw [4] (fun i wr => ∃ k : Nat, k ≤ L.length ∧ i = .int .i64 k ∧ allN (L.take k) = true ∧ Below w1.heap.size w1 wr) (fun i _ => L.length - (intOf i).toNat)
  case atStart => exact ⟨0, Nat.zero_le _, rfl, rfl, Below.refl _ _⟩
  case round =>
    obtain ⟨k, hk, rfl, hal, hbel⟩ := hrel
    have HAL := Lib.hid hal
    have HB := Lib.hid (B1.out.trans (hbel.mono B1.out.size))
    clear hal
    by_cases hlt : k < L.length
    · obtain ⟨bl, offl, rfl, hbl, hcc⟩ := (O1.out.below hbel).at (by omega)
      have c0 := hcc k hlt
      have ST := Lib.hid (allN_step hlt HAL.out)
      have HIT := Lib.hid (allN_hit hlt)
      generalize L[k] = x at *
      clear hcc
      by_cases hx : 0 < x
      · have F : Hid (mb = false) := Lib.hid (by rw [HM.out, HIT.out hx]; rfl)
        go_wp2
        exact bodyPost_ret (v := .bool false) (by simp [results, Try.results17]) rfl ⟨by rw [F.out], BX.out.trans (HB.out.mono (by omega))⟩
      · have F := Lib.hid (ST.out hx)
        go_wp2
        go_roundw
        case rel => exact ⟨k + 1, by omega, by go_num, F.out, hbel⟩
        case measure => simp [intOf]; omega
    · obtain rfl : k = L.length := by omega
      rw [List.take_length] at HAL
      have q0 := (HB.out.cell (p := ⟨w.heap.size, 0, none⟩) sA).trans L0.out
      have q1 := (HB.out.cell (p := ⟨w.heap.size, 1, none⟩) sA).trans L1.out
      have q2 := (HB.out.cell (p := ⟨w.heap.size, 2, none⟩) sA).trans L2.out
      clear hbel
      go_wp2_with fail
      refine (specIsSubgroup_any _ a wr (HA.out _ HB.out)).mono ?_
      rintro e w9 ⟨rfl, b9⟩
      have B9 := Lib.hid (HB.out.trans (b9.mono HB.out.size))
      have F : Hid (mb = coreB a) := Lib.hid (by rw [HM.out, HAL.out]; rfl)
      clear b9 q0 q1 q2
      generalize coreB a = cb at *
      go_wp2
      exact bodyPost_ret (v := .bool cb) (by simp [results, Try.results17]) rfl ⟨by rw [F.out], BX.out.trans (B9.out.mono (by omega))⟩
set_option maxHeartbeats 1000000 in
theorem specIsIndependent_any (va vb : Value) (a b : GrD) (w : World) (ha : ArgG w va a) (hb : ArgG w vb b) :
    Calls Try.prog 13 #[va, vb] w fun e w' => e = .returned (.bool (indB a b)) ∧ Below w.heap.size w w' := by
  have HGA := Lib.hid ha
  obtain ⟨Aa, capa, rfl⟩ : ∃ A' cap, va = .agg #[.int .i64 a.1, .int .i64 a.2.1, .slice A' a.2.2.length cap] := by
    obtain ⟨s, hv, _, _, ha⟩ := HGA.out
    obtain ⟨A', cap, rfl⟩ := ha.form
    exact ⟨A', cap, hv⟩
  have HGB := Lib.hid hb
  obtain ⟨Ab, capb, rfl⟩ : ∃ A' cap, vb = .agg #[.int .i64 b.1, .int .i64 b.2.1, .slice A' b.2.2.length cap] := by
    obtain ⟨s, hv, _, _, ha⟩ := HGB.out
    obtain ⟨A', cap, rfl⟩ := ha.form
    exact ⟨A', cap, hv⟩
  have HM : Hid (indB a b = (allN (compR a b) && (coreB a && coreB b && decide (a.1 = b.1)))) := Lib.hid rfl
  have hll := compR_len (a := a) (b := b)
  have HOD := Lib.hid (fun W h h' => specComponentRanks_any (.agg #[.int .i64 a.1, .int .i64 a.2.1, .slice Aa a.2.2.length capa]) (.agg #[.int .i64 b.1, .int .i64 b.2.1, .slice Ab b.2.2.length capb]) a b W h h')
  generalize indB a b = mb at *
  generalize compR a b = L at *
  clear ha hb
  go_enter Try.func13, Try.ntmps13
  go_wp2_with fail
  have bx : Below w.heap.size w ((w.alloc (Obj.cells #[Value.int IntKind.i64 a.1, Value.int IntKind.i64 a.2.1, .slice Aa a.2.2.length capa] 36)).alloc (Obj.cells #[Value.int IntKind.i64 b.1, Value.int IntKind.i64 b.2.1, .slice Ab b.2.2.length capb] 36)) := (by repeat (first | exact Below.refl _ _ | (refine Below.setCell ?_ (by first | omega | (simp <;> omega)) _) | (refine bel_drewN ?_ _) | (refine Below.drew ?_) | (refine Below.alloc ?_ (by first | omega | (simp <;> omega)) _)))
  obtain ⟨W, hW⟩ : ∃ W, W = (w.alloc (Obj.cells #[Value.int IntKind.i64 a.1, Value.int IntKind.i64 a.2.1, .slice Aa a.2.2.length capa] 36)).alloc (Obj.cells #[Value.int IntKind.i64 b.1, Value.int IntKind.i64 b.2.1, .slice Ab b.2.2.length capb] 36) := ⟨_, rfl⟩
  rw [← hW] at bx ⊢
  have sB : w.heap.size + 1 < W.heap.size := by rw [hW]; simp
  have sA : w.heap.size < W.heap.size := by omega
  have l0 : W.cell? ⟨w.heap.size, 0, none⟩ = some (.int .i64 a.1) := by rw [hW]; simp [go_sem]
  have l1 : W.cell? ⟨w.heap.size, 1, none⟩ = some (.int .i64 a.2.1) := by rw [hW]; simp [go_sem]
  have l2 : W.cell? ⟨w.heap.size, 2, none⟩ = some (.slice Aa a.2.2.length capa) := by rw [hW]; simp [go_sem]
  have M0 : Hid (W.cell? ⟨w.heap.size + 1, 0, none⟩ = some (.int .i64 b.1)) := Lib.hid (by rw [hW]; simp [go_sem])
  have M1 : Hid (W.cell? ⟨w.heap.size + 1, 1, none⟩ = some (.int .i64 b.2.1)) := Lib.hid (by rw [hW]; simp [go_sem])
  have M2 : Hid (W.cell? ⟨w.heap.size + 1, 2, none⟩ = some (.slice Ab b.2.2.length capb)) := Lib.hid (by rw [hW]; simp [go_sem])
  clear hW
  have BX := Lib.hid bx
  have HA : Hid (∀ w', Below W.heap.size W w' → ArgG w' (.agg #[.int .i64 a.1, .int .i64 a.2.1, .slice Aa a.2.2.length capa]) a) := Lib.hid fun w' hb => HGA.out.below (BX.out.trans (hb.mono (by omega)))
  have HB' : Hid (∀ w', Below W.heap.size W w' → ArgG w' (.agg #[.int .i64 b.1, .int .i64 b.2.1, .slice Ab b.2.2.length capb]) b) := Lib.hid fun w' hb => HGB.out.below (BX.out.trans (hb.mono (by omega)))
  refine (HOD.out W (HA.out _ (Below.refl _ _)) (HB'.out _ (Below.refl _ _))).mono ?_
  rintro e w1 ⟨s1, rfl, o1, b1⟩
  obtain ⟨Al, capl, rfl, hcl, hml, _⟩ := OwI.form o1
  have O1 := Lib.hid o1.rd
  have B1 := Lib.hid b1
  have L0 := Lib.hid l0
  have L1 := Lib.hid l1
  have L2 := Lib.hid l2
  clear bx o1 b1 l0 l1 l2
  go_wp2
  go_loopw [6] (fun i wr => ∃ k : Nat, k ≤ L.length ∧ i = .int .i64 k ∧ allN (L.take k) = true ∧ Below w1.heap.size w1 wr) (fun i _ => L.length - (intOf i).toNat)
  case atStart => exact ⟨0, Nat.zero_le _, rfl, rfl, Below.refl _ _⟩
  case round =>
    obtain ⟨k, hk, rfl, hal, hbel⟩ := hrel
    have HAL := Lib.hid hal
    have HB := Lib.hid (B1.out.trans (hbel.mono B1.out.size))
    clear hal
    by_cases hlt : k < L.length
    · obtain ⟨bl, offl, rfl, hbl, hcc⟩ := (O1.out.below hbel).at (by omega)
      have c0 := hcc k hlt
      have ST := Lib.hid (allN_step hlt HAL.out)
      have HIT := Lib.hid (allN_hit hlt)
      generalize L[k] = x at *
      clear hcc
      by_cases hx : 0 < x
      · have F : Hid (mb = false) := Lib.hid (by rw [HM.out, HIT.out hx]; rfl)
        go_wp2
        exact bodyPost_ret (v := .bool false) (by simp [results, Try.results13]) rfl ⟨by rw [F.out], BX.out.trans (HB.out.mono (by omega))⟩
      · have F := Lib.hid (ST.out hx)
        go_wp2
        go_roundw
        case rel => exact ⟨k + 1, by omega, by go_num, F.out, hbel⟩
        case measure => simp [intOf]; omega
    · obtain rfl : k = L.length := by omega
      rw [List.take_length] at HAL
      have q0 := (HB.out.cell (p := ⟨w.heap.size, 0, none⟩) sA).trans L0.out
      have q1 := (HB.out.cell (p := ⟨w.heap.size, 1, none⟩) sA).trans L1.out
      have q2 := (HB.out.cell (p := ⟨w.heap.size, 2, none⟩) sA).trans L2.out
      clear hbel
      go_wp2_with fail
      refine (specIsSubgroup_any _ a wr (HA.out _ HB.out)).mono ?_
      rintro e w9 ⟨rfl, b9⟩
      have B9 := Lib.hid (HB.out.trans (b9.mono HB.out.size))
      have F : Hid (mb = (coreB a && coreB b && decide (a.1 = b.1))) := Lib.hid (by rw [HM.out, HAL.out]; rfl)
      clear b9 q0 q1 q2
      have q0 := (B9.out.cell (p := ⟨w.heap.size, 0, none⟩) sA).trans L0.out
      have q3 := (B9.out.cell (p := ⟨w.heap.size + 1, 0, none⟩) sB).trans M0.out
      have q4 := (B9.out.cell (p := ⟨w.heap.size + 1, 1, none⟩) sB).trans M1.out
      have q5 := (B9.out.cell (p := ⟨w.heap.size + 1, 2, none⟩) sB).trans M2.out
      rcases e1 : coreB a with _ | _
      · have F2 : Hid (mb = false) := Lib.hid (by rw [F.out, e1]; rfl)
        clear e1
        go_wp2
        exact bodyPost_ret (v := .bool false) (by simp [results, Try.results13]) rfl ⟨by rw [F2.out], BX.out.trans (B9.out.mono (by omega))⟩
      have HE1 := Lib.hid e1
      clear e1
      go_wp2_with fail
      refine (specIsSubgroup_any _ b w9 (HB'.out _ B9.out)).mono ?_
      rintro e w10 ⟨rfl, b10⟩
      have B10 := Lib.hid (B9.out.trans (b10.mono B9.out.size))
      clear b10 q0 q3 q4 q5
      have q0 := (B10.out.cell (p := ⟨w.heap.size, 0, none⟩) sA).trans L0.out
      have q3 := (B10.out.cell (p := ⟨w.heap.size + 1, 0, none⟩) sB).trans M0.out
      rcases e2 : coreB b with _ | _
      · have F2 : Hid (mb = false) := Lib.hid (by rw [F.out, HE1.out, e2]; rfl)
        clear e2
        go_wp2
        exact bodyPost_ret (v := .bool false) (by simp [results, Try.results13]) rfl ⟨by rw [F2.out], BX.out.trans (B10.out.mono (by omega))⟩
      have HE2 := Lib.hid e2
      clear e2
      have F2 : Hid (mb = (a.1 == b.1)) := Lib.hid (by rw [F.out, HE1.out, HE2.out]; rfl)
      generalize hq : (a.1 == b.1) = qq at *
      go_wp2
      exact bodyPost_ret (v := .bool qq) (by simp [results, Try.results13, hq]) rfl ⟨by rw [F2.out], BX.out.trans (B10.out.mono (by omega))⟩
end Go.Proofs.Ytodkandjcodnjaa
