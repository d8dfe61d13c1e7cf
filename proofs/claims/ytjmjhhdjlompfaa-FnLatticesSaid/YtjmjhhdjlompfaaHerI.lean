/- The program's InLattice. -/
import Derived.Test.YtjmjhhdjlompfaaHerL
namespace Go.Proofs.Ytjmjhhdjlompfaa
set_option maxRecDepth 20000
set_option linter.unusedVariables false
set_option linter.unusedSimpArgs false
open Go.RowKit

theorem zeroB_piv (xs : List Int) : zeroB xs = decide (pivF xs = xs.length) := by
  by_cases h : pivF xs = xs.length
  · rw [decide_eq_true h]
    unfold zeroB
    rw [List.all_eq_true]
    intro x hx
    obtain ⟨j, hj, rfl⟩ := List.mem_iff_getElem.1 hx
    have := piv_zero xs j (by omega)
    rw [cl_get hj] at this
    simpa using this
  · rw [decide_eq_false h]
    have hp : pivF xs < xs.length := by have := piv_le xs; omega
    exact zeroB_cl (piv_at xs hp)
theorem RdII_one {w : World} {s : Value} {xs : List Int} (h : RdI w s xs) : RdII (w.alloc (.cells #[s] 30)) (.slice (some ⟨w.heap.size, 0, none⟩) 1 1) [xs] := by
  have hr := World.ownsRow_lit (e := 30) (size := 1) (base := 0) w #[s] 1 (Nat.zero_le _) (by unfold maxLen; omega) (by simp)
  refine ⟨[s], rfl, RdV.of_own (by simpa using hr), fun i hi hi' => ?_⟩
  have hi0 : i < 1 := hi
  obtain rfl : i = 0 := by omega
  exact h.alloc _
theorem rowsOk_one (xs : List Int) (m : Int) : rowsOk xs.length m [xs] = xs.all fun x => inB x (-m) m := by
  unfold rowsOk rowOk
  simp
set_option maxHeartbeats 4000000 in
theorem implInLattice_any (v u : Value) (L : List (List Int)) (xs : List Int) (w : World) (h : RdII w v L) (h' : RdI w u xs) (hl : L.length ≤ 1073741824) (hr : ∀ r ∈ L, r.length ≤ 1073741824) (hx : xs.length ≤ 1073741824) :
    Calls Try.prog 11 #[v, u] w fun e w' => e = .returned (.bool (latF L xs)) ∧ Below w.heap.size w w' := by
  have H := Lib.hid (hermite_any v L xs.length w h hl hr)
  have HX := Lib.hid h'
  have HE := Lib.hid (fun e => hermF_ech (n := (xs.length : Int)) (rows := L) e)
  have HF : Hid (latF L xs = ((hermF xs.length L).2 && (xs.all fun x => inB x (-1000000) 1000000) && latS (hermF xs.length L).1 xs)) := Lib.hid rfl
  have HI : Hid ((hermF xs.length L).2 = true → inB (xs.length : Int) 1 3 = true) := Lib.hid fun e => by
    rw [← rows27_eq] at e
    unfold rows27 at e
    simp only [Bool.and_eq_true] at e
    exact e.1.1.1
  obtain ⟨A, cap, rfl, _⟩ := h.form
  obtain ⟨Au, capu, rfl, hcu, hmu, _⟩ := h'.arg
  unfold maxLen at hmu
  clear h h' hr
  generalize latF L xs = RES at *
  generalize hermF xs.length L = R at *
  obtain ⟨l, ok⟩ := R
  dsimp only at HF HE HI H
  go_enter Try.func11, Try.ntmps11
  go_wp2_with fail
  refine H.out.mono ?_
  rintro e w1 ⟨s, rfl, o1, b1⟩
  obtain ⟨A1, c1, rfl, hc1, hm1, _⟩ := OwnL.len o1
  unfold maxLen at hm1
  have O1 := Lib.hid o1.rd
  have B1 := Lib.hid b1
  have HX1 := Lib.hid (HX.out.below b1)
  have hs1 := b1.size
  clear o1 b1
  cases ok
  · have F : Hid (RES = false) := Lib.hid (by rw [HF.out]; rfl)
    go_wp2
    go_ret
    exact ⟨ret_bool F.out.symm, B1.out⟩
  rw [Bool.true_and] at HF
  have hn13 := inB_iff.1 (HI.out rfl)
  have hech := HE.out rfl
  rw [Int.toNat_natCast] at hech
  have HECH := Lib.hid hech
  have hlen := hech.length
  have HLT : Hid (latS l xs = latI l xs) := Lib.hid (lat_eq l xs hech.ech fun t => by
    by_cases ht : t < xs.length
    · rw [cl_get ht]; exact HX.out.2 _ (by simp)
    · rw [cl_out (by omega)]; exact ⟨by omega, by omega⟩)
  rw [HLT.out] at HF
  have HONE := Lib.hid (rowsOk_one xs 1000000)
  clear hech HE HI HLT
  have HAR := Lib.hid (areRows_any (.slice (some ⟨w1.heap.size, 0, none⟩) 1 1) [xs] xs.length 1000000 _ (RdII_one HX1.out) (by simp) (by omega) (by omega))
  rw [HONE.out] at HAR
  clear HONE
  go_wp2_with fail
  refine HAR.out.mono ?_
  rintro e w' ⟨rfl, rfl⟩
  clear HAR
  have B2 : Hid (Below w.heap.size w (w1.alloc (.cells #[.slice Au xs.length capu] 30))) := Lib.hid (B1.out.alloc hs1 _)
  rcases e2 : (xs.all fun x => inB x (-1000000) 1000000) with _ | _
  · have F : Hid (RES = false) := Lib.hid (by rw [HF.out, e2]; rfl)
    clear e2
    go_wp2
    go_ret
    exact ⟨ret_bool F.out.symm, B2.out⟩
  rw [e2, Bool.true_and] at HF
  clear e2
  have HX2 := Lib.hid (HX1.out.alloc (.cells #[.slice Au xs.length capu] 30))
  have O2 := Lib.hid (O1.out.below ((Below.refl w1.heap.size w1).alloc (Nat.le_refl _) (.cells #[.slice Au xs.length capu] 30)))
  have hs2 : w.heap.size ≤ (w1.alloc (.cells #[.slice Au xs.length capu] 30)).heap.size := B2.out.size
  generalize w1.alloc (.cells #[.slice Au xs.length capu] 30) = w2 at *
  clear HX1 O1 B1
  go_wp2_with fail
  refine (copyInts_any _ xs w2 HX2.out hx).mono ?_
  rintro e w3 ⟨s3, rfl, o3, b3⟩
  obtain ⟨A3, c3, rfl, hc3, hm3, _, hf3⟩ := OwI.form o3
  obtain ⟨gl, rfl, hg1, hg2⟩ := hf3 (by omega)
  have O3 := Lib.hid (o3.mono (Nat.zero_le _))
  have HL3 := Lib.hid (O2.out.below b3)
  have B3 := Lib.hid (B2.out.trans (b3.mono hs2))
  have HB23 := Lib.hid b3
  have hs3 := b3.size
  unfold maxLen at hm3
  obtain ⟨N, hN⟩ : ∃ N, N = xs.length := ⟨_, rfl⟩
  have HNX := Lib.hid hN
  rw [← hN] at O3 HECH hc3 hn13 hlen ⊢
  clear o3 b3 hN hf3 HX2 HL3
  have hl3 : l.length ≤ 3 := by omega
  have HRB : Hid (∀ W, w3.grownBy W (some gl) → Below w.heap.size w W ∧ Below w2.heap.size w2 W) := Lib.hid fun W hg => ⟨B3.out.grown hg (by omega) fun b hb => by injection hb with hb; omega, HB23.out.grown hg hs3 fun b hb => by injection hb with hb; omega⟩
  have hNI : (N : Int) = (xs.length : Int) := by have := HNX.out; omega
  clear hNI
  go_wp2
  go_loopw [33] (fun i wr => ∃ (k : Nat) (cur : List Int), k ≤ l.length ∧ i = .int .i64 k ∧ OwI wr 0 (.slice (some ⟨gl, 0, none⟩) N c3) cur ∧ Hid (cur.length = N) ∧ RES = latI (l.drop k) cur ∧ w3.grownBy wr (some gl)) (fun i _ => l.length - (intOf i).toNat)
  case atStart => exact ⟨0, xs, Nat.zero_le _, rfl, O3.out, Lib.hid HNX.out.symm, HF.out, World.grownBy.refl _ _⟩
  case round =>
    obtain ⟨k, cur, hk, rfl, hown, hcl, hres, hgr⟩ := hrel
    have HO := Lib.hid hown
    have HRS := Lib.hid hres
    have HG := Lib.hid hgr
    have HBX := Lib.hid (HRB.out wr hgr).2
    have HBW := Lib.hid (HRB.out wr hgr).1
    have hgw : gl < wr.heap.size := by have := hgr.size; omega
    clear hown hres hgr
    by_cases hlt : k < l.length
    · obtain ⟨b, off, A2, c2, rfl, hb, hcell2, hc2, hm2, hrd⟩ := O2.out.at hlt
      have hcell := (HBX.out.cell (p := ⟨b, off + k, none⟩) hb).trans hcell2
      have HRD := Lib.hid (hrd.below HBX.out)
      have HRD2 := Lib.hid hrd
      clear hcell2
      have HRL := Lib.hid (HECH.out.len _ (List.getElem_mem hlt))
      have HPV := Lib.hid (HECH.out.piv _ (List.getElem_mem hlt))
      have HDR : Hid (l.drop k = l[k] :: l.drop (k + 1)) := Lib.hid (List.drop_eq_getElem_cons hlt)
      rw [HDR.out] at HRS
      unfold latI at HRS
      unfold maxLen at hm2
      clear hrd HDR
      have HPZ := Lib.hid (piv_at l[k])
      have HAB : Hid (0 < l[k].length → ∀ b2 off2, A2 = some ⟨b2, off2, none⟩ → b2 ≠ gl) := Lib.hid fun h0 b2 off2 e2 e => by
        obtain ⟨b', o', e', hb', _⟩ := HRD2.out.at h0
        rw [e2] at e'
        injection e' with e'
        injection e' with e'
        omega
      generalize l[k] = r at *
      have hrl : r.length ≤ 3 := by have := HRL.out; omega
      go_wp2_with fail
      refine (pivot_any _ r wr HRD.out (by omega)).mono ?_
      rintro e w' ⟨rfl, rfl⟩
      have hp := HPV.out
      have HPP := Lib.hid (HPZ.out (by rw [HRL.out]; exact hp))
      clear HPZ HPV
      generalize pivF r = p at *
      go_wp2
      go_loop [11] (fun i => ∃ q : Nat, q ≤ p ∧ i = .int .i64 q ∧ ∀ t, t < q → cl cur t = 0) (fun i => p - (intOf i).toNat)
      case atStart => exact ⟨0, Nat.zero_le _, rfl, fun t ht => absurd ht (by omega)⟩
      case round =>
        obtain ⟨q, hq, rfl, hz⟩ := hrel
        have HZ := Lib.hid hz
        clear hz
        by_cases hlt2 : q < p
        · have hcq := HO.out.cellAt q (by have := hcl.out; omega)
          rw [← cl_get (by have := hcl.out; omega)] at hcq
          have hqN : (q : Int) < (N : Int) := by omega
          have HNO : Hid (cl cur q ≠ 0 → RES = false) := Lib.hid fun e => by
            rw [HRS.out, if_pos]
            rw [List.any_eq_true]
            exact ⟨q, List.mem_range.2 hlt2, by simpa using e⟩
          have HYES : Hid (cl cur q = 0 → ∀ t, t < q + 1 → cl cur t = 0) := Lib.hid fun e t ht => by
            rcases Nat.lt_or_eq_of_le (Nat.le_of_lt_succ ht) with h | rfl
            · exact HZ.out t h
            · exact e
          generalize cl cur q = x at *
          rcases ex : (x != 0) with _ | _
          · have F := Lib.hid (HYES.out (by simpa using ex))
            go_wp2
            go_round
            case rel => exact ⟨q + 1, by omega, by go_num, F.out⟩
            case measure => simp [intOf]; omega
          · have F := Lib.hid (HNO.out (by simpa using ex))
            go_wp2
            go_ret
            exact ⟨ret_bool F.out.symm, HBW.out⟩
        · obtain rfl : q = p := by omega
          have HR2 : Hid (RES = if Int.tmod (cl cur q) (cl r q) ≠ 0 then false else latI (l.drop (k + 1)) (subR cur (quoW (cl cur q) (cl r q)) r)) := Lib.hid (by
            rw [HRS.out, if_neg]
            rw [List.any_eq_true]
            rintro ⟨t, ht, hne⟩
            have := HZ.out t (List.mem_range.1 ht)
            simp [this] at hne)
          clear HRS
          have hcq := HO.out.cellAt q (by have := hcl.out; omega)
          rw [← cl_get (by have := hcl.out; omega)] at hcq
          obtain ⟨b2, off2, rfl, hb2, hcc⟩ := HRD.out.at (by have := HRL.out; omega)
          have hcr := hcc q (by have := HRL.out; omega)
          rw [← cl_get (by have := HRL.out; omega)] at hcr
          have hqN : (q : Int) < (N : Int) := by omega
          have hqr : (q : Int) < (r.length : Int) := by have := HRL.out; omega
          have hy := HPP.out
          have HAB2 := Lib.hid (HAB.out (by have := HRL.out; omega) b2 off2 rfl)
          have HQ : Hid (quoW (cl cur q) (cl r q) = wrap64 (Int.tdiv (cl cur q) (cl r q))) := Lib.hid rfl
          clear hcc HPP HAB
          generalize cl cur q = x at *
          generalize cl r q = y at *
          generalize quoW x y = qu at *
          rcases ex : (Int.tmod x y != 0) with _ | _
          rotate_left
          · have F : Hid (RES = false) := Lib.hid (by rw [HR2.out, if_pos (by simpa using ex)])
            go_wp2_with fail
            go_quiet (fail)
            go_wp2
            go_ret
            exact ⟨ret_bool F.out.symm, bel_drewN HBW.out _⟩
          have F : Hid (RES = latI (l.drop (k + 1)) (subR cur qu r)) := Lib.hid (by rw [HR2.out, if_neg (by simpa using ex)])
          go_wp2_with fail
          go_quiet (fail)
          obtain ⟨wq, hwq⟩ : ∃ W, W = wr.drewN nq := ⟨_, rfl⟩
          have kq : wq.cell? ⟨gl, q, none⟩ = some (.int .i64 x) := by rw [hwq]; exact hcq
          have kr : wq.cell? ⟨b2, off2 + q, none⟩ = some (.int .i64 y) := by rw [hwq]; exact hcr
          have KO : Hid (OwI wq 0 (.slice (some ⟨gl, 0, none⟩) N c3) cur) := Lib.hid (by rw [hwq]; exact HO.out.drewN nq)
          have KR : Hid (RdI wq (.slice (some ⟨b2, off2, none⟩) r.length c2) r) := Lib.hid (by rw [hwq]; exact HRD.out.drewN nq)
          have KG : Hid (w3.grownBy wq (some gl)) := Lib.hid (by rw [hwq]; exact HG.out.trans ⟨rfl, rfl, rfl, Nat.le_refl _, fun _ _ _ => rfl⟩)
          have ks : wq.heap.size = wr.heap.size := by rw [hwq]; rfl
          rw [← hwq]
          have hgq : gl < wq.heap.size := by omega
          have hbq : b2 < wq.heap.size := by omega
          clear hwq hcq hcr hcell ks
          go_wp2_with fail
          have fA := BelW.cell kq hgq
          have fB := BelW.cell kr hbq
          (refine wp_region_quiet_callD 11 (some 70) (by kernel_rfl) (by rfl) (by rfl) (by kernel_rfl) (by kernel_rfl) ?_; dsimp only [dumL, lastL]; (repeat (go_big_quiet_step (fail))); refine wpQuiet_nil ?_; intro uv wv hw'; obtain ⟨pq, hw''⟩ := hw'; have bv := pq.h; rw [← hw''] at bv; clear hw'' pq; simp only [Act.put, List.setIfInBounds_toArray, List.set_cons_zero, List.set_cons_succ])
          have HV := Lib.hid bv
          clear bv fA fB kq kr
          go_wp2_with fail
          refine (subtract_any _ _ cur r (wrap64 (Int.tdiv x y)) 0 wv (KO.out.below HV.out) (KR.out.below HV.out) (fun b h h' => HAB2.out (by simp [Value.ownBlock] at h h'; omega)) (by rw [hcl.out, HRL.out]; exact Nat.le_refl _) (by rw [hcl.out]; omega)).mono ?_
          rintro e w5 ⟨rfl, o5, g5⟩
          rw [← HQ.out] at o5
          have O5 := Lib.hid o5
          have G5 : Hid (w3.grownBy w5 (some gl)) := Lib.hid ((KG.out.trans ⟨HV.out.os, HV.out.tape, HV.out.output, HV.out.size, fun k hk _ => HV.out.block k hk⟩).trans g5)
          have HC5 : Hid ((subR cur qu r).length = N) := Lib.hid (by rw [subR_len]; exact hcl.out)
          clear o5 g5
          go_wp2
          go_roundw
          case rel => exact ⟨k + 1, subR cur qu r, by omega, by go_num, O5.out, HC5, F.out, G5.out⟩
          case measure => simp [intOf]; omega
    · obtain rfl : k = l.length := by omega
      have F : Hid (RES = zeroB cur) := Lib.hid (by rw [HRS.out, List.drop_length]; rfl)
      have HZP := Lib.hid (zeroB_piv cur)
      go_wp2_with fail
      refine (pivot_any _ cur wr HO.out.rd (by have := hcl.out; omega)).mono ?_
      rintro e w' ⟨rfl, rfl⟩
      have F2 : Hid ((((pivF cur : Nat) : Int) == (N : Int)) = RES) := Lib.hid (by
        rw [F.out, HZP.out, hcl.out, Bool.eq_iff_iff, beq_iff_eq, decide_eq_true_iff]
        omega)
      generalize pivF cur = p at *
      go_wp2
      go_ret
      exact ⟨ret_bool F2.out, HBW.out⟩
end Go.Proofs.Ytjmjhhdjlompfaa
