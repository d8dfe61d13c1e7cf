/- The reference's LatticeIndex and InLattice. The program's HermiteForm and LatticeIndex. How great the Hermite form is. -/
import Derived.Test.YtjmjhhdjlompfaaIIL
import Derived.Test.YtjmjhhdjlompfaaHerG
import Derived.Test.YtjmjhhdjlompfaaHerK
namespace Go.Proofs.Ytjmjhhdjlompfaa
set_option maxRecDepth 20000
set_option linter.unusedVariables false
set_option linter.unusedSimpArgs false
open Go.RowKit

theorem cnt_le (k : Nat) : ∀ l : List (List Int), (∀ d ∈ l, d.length = k) → cntL cI l = l.length * k
  | [], _ => by simp [cntL]
  | d :: l, h => by
    rw [cntL_cons, cnt_le k l fun e he => h e (by simp [he]), List.length_cons, Nat.add_mul, Nat.one_mul]
    have := h d (by simp)
    unfold cI
    omega
theorem herm_cnt (n : Int) (L : List (List Int)) : cntL cI (hermF n L).1 ≤ 1073741824 := by
  rcases e : (hermF n L).2 with _ | _
  · rw [hermF_no e]; simp [cntL]
  · have h := hermF_ech e
    have h1 := h.length
    have hn : inB n 1 3 = true := by
      rw [← rows27_eq] at e
      unfold rows27 at e
      simp only [Bool.and_eq_true] at e
      exact e.1.1.1
    have hn13 := inB_iff.1 hn
    rw [cnt_le n.toNat _ h.len]
    have : (hermF n L).1.length * n.toNat ≤ 3 * 3 := Nat.mul_le_mul (by omega) (by omega)
    omega
set_option maxHeartbeats 400000 in
theorem implHermiteForm_any (v : Value) (L : List (List Int)) (n : Int) (w : World) (h : RdII w v L) (hl : L.length ≤ 1073741824) (hr : ∀ r ∈ L, r.length ≤ 1073741824) :
    Calls Try.prog 6 #[v, .int .i64 n] w fun e w' => ∃ s, e = .returned s ∧ OwII w.heap.size w'.heap.size s (hermF n L).1 w' ∧ Below w.heap.size w w' := by
  have H := Lib.hid (hermite_any v L n w h hl hr)
  obtain ⟨A, cap, rfl, _⟩ := h.form
  clear h hr
  generalize hermF n L = R at *
  go_enter Try.func6, Try.ntmps6
  go_wp2_with fail
  refine H.out.mono ?_
  rintro e w1 ⟨s, rfl, o1, b1⟩
  obtain ⟨A1, c1, rfl, _⟩ := OwnL.len o1
  have O1 := Lib.hid o1
  have B1 := Lib.hid b1
  clear o1 b1
  go_wp2
  go_ret
  exact ⟨_, rfl, O1.out, B1.out⟩
set_option maxHeartbeats 800000 in
theorem implLatticeIndex_any (v : Value) (L : List (List Int)) (n : Int) (w : World) (h : RdII w v L) (hl : L.length ≤ 1073741824) (hr : ∀ r ∈ L, r.length ≤ 1073741824) :
    Calls Try.prog 9 #[v, .int .i64 n] w fun e w' => e = .returned (.int .i64 (latN L n)) ∧ Below w.heap.size w w' := by
  have H := Lib.hid (hermite_any v L n w h hl hr)
  have HE := Lib.hid (fun e => hermF_ech (n := n) (rows := L) e)
  have HN : Hid (latN L n = if (hermF n L).2 = true ∧ ¬ ((hermF n L).1.length : Int) < n then prodD (hermF n L).1 n.toNat else -1) := Lib.hid rfl
  have HI : Hid ((hermF n L).2 = true → inB n 1 3 = true) := Lib.hid fun e => by
    rw [← rows27_eq] at e
    unfold rows27 at e
    simp only [Bool.and_eq_true] at e
    exact e.1.1.1
  obtain ⟨A, cap, rfl, _⟩ := h.form
  clear h hr
  generalize latN L n = RES at *
  generalize hermF n L = R at *
  obtain ⟨l, ok⟩ := R
  dsimp only at HN HE HI H
  go_enter Try.func9, Try.ntmps9
  go_wp2_with fail
  refine H.out.mono ?_
  rintro e w1 ⟨s, rfl, o1, b1⟩
  obtain ⟨A1, c1, rfl, hc1, hm1, _⟩ := OwnL.len o1
  unfold maxLen at hm1
  have O1 := Lib.hid o1.rd
  have B1 := Lib.hid b1
  clear o1 b1
  cases ok
  · have F : Hid (RES = -1) := Lib.hid (by rw [HN.out, if_neg (fun h => by cases h.1)])
    go_wp2
    go_ret
    exact ⟨ret_int F.out.symm, B1.out⟩
  rcases e1 : decide ((l.length : Int) < n) with _ | _
  rotate_left
  · have F : Hid (RES = -1) := Lib.hid (by rw [HN.out, if_neg (fun h => by have h2 := h.2; simp at e1; omega)])
    go_wp2
    go_ret
    exact ⟨ret_int F.out.symm, B1.out⟩
  have hnl : ¬ (l.length : Int) < n := by simpa using e1
  have hn13 := inB_iff.1 (HI.out rfl)
  have hech := HE.out rfl
  have hlen := hech.length
  have hln : l.length = n.toNat := by omega
  have F : Hid (RES = prodD l l.length) := Lib.hid (by rw [HN.out, if_pos ⟨rfl, by omega⟩, hln])
  have HLN : Hid (∀ k (hk : k < l.length), l[k].length = l.length) := Lib.hid fun k hk => by rw [hech.len _ (List.getElem_mem hk), hln]
  have hl3 : l.length ≤ 3 := by omega
  clear hln hech hlen HE HI
  go_wp2
  go_loop [7, 26] (fun k i => ∃ q : Nat, q ≤ l.length ∧ i = .int .i64 q ∧ k = .int .i64 (prodD l q)) (fun _ i => l.length - (intOf i).toNat)
  case atStart => exact ⟨0, Nat.zero_le _, rfl, rfl⟩
  case round =>
    obtain ⟨q, hq, rfl, rfl⟩ := hrel
    by_cases hlt : q < l.length
    · obtain ⟨b, off, A2, c2, rfl, hb, hcell, hc2, hm2, hrd⟩ := O1.out.at hlt
      have HS := Lib.hid (prodD_succ l q)
      have hrl := HLN.out q hlt
      have HRL := Lib.hid hrl
      rw [rw_mem hlt] at HS
      have hql : q < l[q].length := by rw [hrl]; exact hlt
      clear hrl
      unfold maxLen at hm2
      generalize l[q] = r at *
      obtain ⟨b3, off3, rfl, hb3, hcc⟩ := hrd.at (by omega)
      have hc3 := hcc q hql
      rw [← cl_get hql] at hc3
      have hqI : (q : Int) < (r.length : Int) := by omega
      clear hcc hrd
      generalize cl r q = x at *
      generalize prodD l q = P at *
      go_wp2
      go_round
      case rel => exact ⟨q + 1, by omega, by go_num, by rw [HS.out]⟩
      case measure => simp [intOf]; omega
    · obtain rfl : q = l.length := by omega
      go_wp2
      go_ret
      exact ⟨ret_int F.out.symm, B1.out⟩
theorem latN_rows (L : List (List Int)) (n : Int) : latN L n = if rows27 n L = true ∧ ¬ ((hermF n L).1.length : Int) < n then prodD (hermF n L).1 n.toNat else -1 := by rw [rows27_eq]; rfl
theorem latF_rows (L : List (List Int)) (xs : List Int) : latF L xs = (rows27 xs.length L && (xs.all fun x => inB x (-1000000) 1000000) && latS (hermF xs.length L).1 xs) := by rw [rows27_eq]; rfl
theorem numOk_one (xs : List Int) (m : Int) : numOk m [xs] = xs.all fun x => inB x (-m) m := by unfold numOk; simp
theorem RdII_one' {w : World} {s : Value} {xs : List Int} (h : RdI w s xs) : RdII (w.alloc (.cells #[s] 30)) (.slice (some ⟨w.heap.size, 0, none⟩) 1 1) [xs] := by
  have hr := World.ownsRow_lit (e := 30) (size := 1) (base := 0) w #[s] 1 (Nat.zero_le _) (by unfold maxLen; omega) (by simp)
  refine ⟨[s], rfl, RdV.of_own (by simpa using hr), fun i hi hi' => ?_⟩
  have hi0 : i < 1 := hi
  obtain rfl : i = 0 := by omega
  exact h.alloc _
set_option maxHeartbeats 800000 in
theorem specLatticeIndex_any (v : Value) (L : List (List Int)) (n : Int) (w : World) (h : RdII w v L) (hl : L.length ≤ 1073741824) (hr : ∀ r ∈ L, r.length ≤ 1073741824) :
    Calls Try.prog 10 #[v, .int .i64 n] w fun e w' => e = .returned (.int .i64 (latN L n)) ∧ Below w.heap.size w w' := by
  have H := Lib.hid (specHermiteForm_any v L n w h hl hr)
  have HRD := Lib.hid h
  have HE := Lib.hid (fun e => hermF_ech (n := n) (rows := L) e)
  have HN := Lib.hid (latN_rows L n)
  have HR2 := Lib.hid (rows27_eq n L)
  have HI : Hid (rows27 n L = true → inB n 1 3 = true) := Lib.hid fun e => by
    unfold rows27 at e
    simp only [Bool.and_eq_true] at e
    exact e.1.1.1
  obtain ⟨A, cap, rfl, _⟩ := h.form
  have HRW := Lib.hid (fun W (b : Below w.heap.size w W) => l27Rows_any (.slice A L.length cap) L n W (HRD.out.below b) hl)
  clear h hr
  generalize latN L n = RES at *
  generalize hermF n L = R at *
  obtain ⟨l, ok⟩ := R
  dsimp only at HN HE H HR2
  generalize rows27 n L = RK at *
  go_enter Try.func10, Try.ntmps10
  go_wp2_with fail
  refine H.out.mono ?_
  rintro e w1 ⟨s, rfl, o1, b1⟩
  obtain ⟨A1, c1, rfl, hc1, hm1, _⟩ := OwnL.len o1
  unfold maxLen at hm1
  have O1 := Lib.hid o1.rd
  have B1 := Lib.hid b1
  clear o1 b1 H
  cases RK
  · have F : Hid (RES = -1) := Lib.hid (by rw [HN.out, if_neg (fun h => by cases h.1)])
    go_wp2_with fail
    refine (HRW.out w1 B1.out).mono ?_
    rintro e w' ⟨rfl, m, rfl⟩
    go_wp2
    go_ret
    exact ⟨ret_int F.out.symm, bel_drewN B1.out m⟩
  rcases e1 : decide ((l.length : Int) < n) with _ | _
  rotate_left
  · have F : Hid (RES = -1) := Lib.hid (by rw [HN.out, if_neg (fun h => by have h2 := h.2; simp at e1; omega)])
    go_wp2_with fail
    refine (HRW.out w1 B1.out).mono ?_
    rintro e w' ⟨rfl, m, rfl⟩
    go_wp2
    go_ret
    exact ⟨ret_int F.out.symm, bel_drewN B1.out m⟩
  have hnl : ¬ (l.length : Int) < n := by simpa using e1
  have hn13 := inB_iff.1 (HI.out rfl)
  have hech := HE.out HR2.out.symm
  have hlen := hech.length
  have hln : l.length = n.toNat := by omega
  have F : Hid (RES = prodD l l.length) := Lib.hid (by rw [HN.out, if_pos ⟨rfl, by omega⟩, hln])
  have HLN : Hid (∀ k (hk : k < l.length), l[k].length = l.length) := Lib.hid fun k hk => by rw [hech.len _ (List.getElem_mem hk), hln]
  have hl3 : l.length ≤ 3 := by omega
  obtain rfl : n = (l.length : Int) := by omega
  clear hln hech hlen HE HI HR2 hn13 hnl e1 HN
  go_wp2_with fail
  refine (HRW.out w1 B1.out).mono ?_
  rintro e w' ⟨rfl, m, rfl⟩
  have O2 : Hid (RdII (w1.drewN m) (.slice A1 l.length c1) l) := Lib.hid (O1.out.drewN m)
  have B2 : Hid (Below w.heap.size w (w1.drewN m)) := Lib.hid (bel_drewN B1.out m)
  generalize w1.drewN m = w2 at *
  clear O1 B1 HRW
  go_wp2
  go_loop [6, 7] (fun k i => ∃ q : Nat, q ≤ l.length ∧ i = .int .i64 q ∧ k = .int .i64 (prodD l q)) (fun _ i => l.length - (intOf i).toNat)
  case atStart => exact ⟨0, Nat.zero_le _, rfl, rfl⟩
  case round =>
    obtain ⟨q, hq, rfl, rfl⟩ := hrel
    by_cases hlt : q < l.length
    · obtain ⟨b, off, A2, c2, rfl, hb, hcell, hc2, hm2, hrd⟩ := O2.out.at hlt
      have HS := Lib.hid (prodD_succ l q)
      have hrl := HLN.out q hlt
      have HRL := Lib.hid hrl
      rw [rw_mem hlt] at HS
      have hql : q < l[q].length := by rw [hrl]; exact hlt
      clear hrl
      unfold maxLen at hm2
      generalize l[q] = r at *
      obtain ⟨b3, off3, rfl, hb3, hcc⟩ := hrd.at (by omega)
      have hc3 := hcc q hql
      rw [← cl_get hql] at hc3
      have hqI : (q : Int) < (r.length : Int) := by omega
      clear hcc hrd
      generalize cl r q = x at *
      generalize prodD l q = P at *
      go_wp2
      go_round
      case rel => exact ⟨q + 1, by omega, by go_num, by rw [HS.out]⟩
      case measure => simp [intOf]; omega
    · obtain rfl : q = l.length := by omega
      go_wp2
      go_ret
      exact ⟨ret_int F.out.symm, B2.out⟩
set_option maxHeartbeats 4000000 in
theorem specInLattice_any (v u : Value) (L : List (List Int)) (xs : List Int) (w : World) (h : RdII w v L) (h' : RdI w u xs) (hl : L.length ≤ 1073741824) (hr : ∀ r ∈ L, r.length ≤ 1073741824) (hx : xs.length ≤ 1073741824) :
    Calls Try.prog 14 #[v, u] w fun e w' => e = .returned (.bool (latF L xs)) ∧ Below w.heap.size w w' := by
  have HHF := Lib.hid (fun W (hh : RdII W v L) => specHermiteForm_any v L xs.length W hh hl hr)
  have HRD := Lib.hid h
  have HX := Lib.hid h'
  have HE := Lib.hid (fun e => hermF_ech (n := (xs.length : Int)) (rows := L) e)
  have HF := Lib.hid (latF_rows L xs)
  have HR2 := Lib.hid (rows27_eq (xs.length : Int) L)
  have HI : Hid (rows27 xs.length L = true → inB (xs.length : Int) 1 3 = true) := Lib.hid fun e => by
    unfold rows27 at e
    simp only [Bool.and_eq_true] at e
    exact e.1.1.1
  obtain ⟨A, cap, rfl, _⟩ := h.form
  have HRW := Lib.hid (fun W (hh : RdII W (.slice A L.length cap) L) => l27Rows_any (.slice A L.length cap) L xs.length W hh hl)
  obtain ⟨Au, capu, rfl, hcu, hmu, _⟩ := h'.arg
  unfold maxLen at hmu
  clear h h' hr
  generalize latF L xs = RES at *
  generalize hermF xs.length L = R at *
  obtain ⟨l, ok⟩ := R
  dsimp only at HF HE HHF HR2
  generalize rows27 xs.length L = RK at *
  go_enter Try.func14, Try.ntmps14
  have HEMP : Hid (OwI (w.alloc (.cells #[] 3)) w.heap.size (.slice (some ⟨w.heap.size, 0, none⟩) 0 0) []) := Lib.hid (OwI_lit _ [] I64s_nil (by simp) (Nat.le_refl _))
  have BE : Hid (Below w.heap.size w (w.alloc (.cells #[] 3))) := Lib.hid ((Below.refl _ _).alloc (Nat.le_refl _) _)
  have HXE := Lib.hid (HX.out.below BE.out)
  go_wp2_with (at_builtin; refine append_ints rfl (.tmp 9) (.tmp 10) rfl w.heap.size _ [] HEMP.out rfl _ _ HXE.out rfl (by simp only [List.length_nil]; omega) (by simp) ?_; intro v1 w1 o1 g1 p1)
  rw [List.nil_append] at o1
  have B1 : Hid (Below w.heap.size w w1) := Lib.hid (BE.out.grown g1 (by simp) fun b hb => by simp [Value.ownBlock] at hb; omega)
  obtain ⟨A1, c1, rfl, hc1, hm1, _, _⟩ := OwI.form o1
  have O1 := Lib.hid o1
  have HX1 := Lib.hid (HX.out.below B1.out)
  have HR1 := Lib.hid (HRD.out.below B1.out)
  clear o1 g1 p1 HEMP BE HXE
  cases RK
  · have F : Hid (RES = false) := Lib.hid (by rw [HF.out]; rfl)
    go_wp2_with fail
    refine (HRW.out w1 HR1.out).mono ?_
    rintro e w' ⟨rfl, m, rfl⟩
    go_wp2
    go_ret
    exact ⟨ret_bool F.out.symm, bel_drewN B1.out m⟩
  rw [Bool.true_and] at HF
  have hn13 := inB_iff.1 (HI.out rfl)
  have hech := HE.out HR2.out.symm
  rw [Int.toNat_natCast] at hech
  have HECH := Lib.hid hech
  have hlen := hech.length
  clear hech HE HI HR2
  go_wp2_with fail
  refine (HRW.out w1 HR1.out).mono ?_
  rintro e w' ⟨rfl, m, rfl⟩
  obtain ⟨w2, hw2⟩ : ∃ W, W = w1.drewN m := ⟨_, rfl⟩
  have O2 : Hid (OwI w2 w.heap.size (.slice A1 xs.length c1) xs) := Lib.hid (by rw [hw2]; exact O1.out.drewN m)
  have B2 : Hid (Below w.heap.size w w2) := Lib.hid (by rw [hw2]; exact bel_drewN B1.out m)
  have HX2 : Hid (RdI w2 (.slice Au xs.length capu) xs) := Lib.hid (HX.out.below B2.out)
  rw [← hw2]
  clear hw2 O1 B1 HX1 HR1 HRW
  have HONE := Lib.hid (numOk_one xs 1000000)
  have HAR := Lib.hid (l27Within_any (.slice (some ⟨w2.heap.size, 0, none⟩) 1 1) [xs] 1000000 _ (RdII_one' HX2.out) (by simp) (by omega) (by omega))
  rw [HONE.out] at HAR
  have hs2 := B2.out.size
  clear HONE
  go_wp2_with fail
  refine HAR.out.mono ?_
  rintro e w' ⟨rfl, rfl⟩
  clear HAR
  have B3 : Hid (Below w.heap.size w (w2.alloc (.cells #[.slice Au xs.length capu] 30))) := Lib.hid (B2.out.alloc hs2 _)
  have O3 : Hid (OwI (w2.alloc (.cells #[.slice Au xs.length capu] 30)) w.heap.size (.slice A1 xs.length c1) xs) := Lib.hid (O2.out.alloc _)
  generalize w2.alloc (.cells #[.slice Au xs.length capu] 30) = w3 at *
  clear O2 B2 HX2 hs2
  rcases e2 : (xs.all fun x => inB x (-1000000) 1000000) with _ | _
  · have F : Hid (RES = false) := Lib.hid (by rw [HF.out, e2]; rfl)
    clear e2
    go_wp2
    go_ret
    exact ⟨ret_bool F.out.symm, B3.out⟩
  rw [e2, Bool.true_and] at HF
  clear e2
  have HHF3 := Lib.hid (HHF.out w3 (HRD.out.below B3.out))
  clear HHF
  go_wp2_with fail
  refine HHF3.out.mono ?_
  rintro e w4 ⟨s, rfl, o4, b4⟩
  obtain ⟨A4, c4, rfl, hc4, hm4, _⟩ := OwnL.len o4
  have HL4 := Lib.hid o4.rd
  have O4 := Lib.hid (O3.out.below b4)
  have B4 := Lib.hid (B3.out.trans (b4.mono B3.out.size))
  unfold maxLen at hm4 hm1
  obtain ⟨N, hN⟩ : ∃ N, N = xs.length := ⟨_, rfl⟩
  have HNX := Lib.hid hN
  rw [← hN] at O4 HECH hc1 hn13 hlen ⊢
  clear o4 b4 hN HHF3 O3 B3
  have hl3 : l.length ≤ 3 := by omega
  go_wp2
  go_loopw [5, 7] (fun x i wr => ∃ (k : Nat) (cur : List Int), k ≤ l.length ∧ i = .int .i64 k ∧ OwI wr w.heap.size x cur ∧ Hid (cur.length = N) ∧ Hid (RES = latS (l.drop k) cur) ∧ Below w.heap.size w wr ∧ Below w4.heap.size w4 wr) (fun _ i _ => l.length - (intOf i).toNat)
  case atStart => exact ⟨0, xs, Nat.zero_le _, rfl, O4.out, Lib.hid HNX.out.symm, HF, B4.out, Below.refl _ _⟩
  case round =>
    obtain ⟨k, cur, hk, rfl, hown, hcl, HRS, hbw, hb4⟩ := hrel
    obtain ⟨Ax, cx, rfl, hcx, hmx, _, hfx⟩ := OwI.form hown
    rw [hcl.out] at hcx hfx hown ⊢
    obtain ⟨gx, rfl, hgx1, hgx2⟩ := hfx (by omega)
    have HO := Lib.hid hown
    have HBW := Lib.hid hbw
    have HBX := Lib.hid hb4
    unfold maxLen at hmx
    clear hown hbw hb4 hfx
    by_cases hlt : k < l.length
    · obtain ⟨b, off, A2, c2, rfl, hb, hcell2, hc2, hm2, hrd⟩ := HL4.out.at hlt
      have hcell := (HBX.out.cell (p := ⟨b, off + k, none⟩) hb).trans hcell2
      have hsb : w4.heap.size ≤ wr.heap.size := HBX.out.size
      have hbr : b < wr.heap.size := by omega
      have HRD2 := Lib.hid (hrd.below HBX.out)
      clear hcell2
      have HRL := Lib.hid (HECH.out.len _ (List.getElem_mem hlt))
      have HPV := Lib.hid (HECH.out.piv _ (List.getElem_mem hlt))
      have HDR : Hid (l.drop k = l[k] :: l.drop (k + 1)) := Lib.hid (List.drop_eq_getElem_cons hlt)
      rw [HDR.out] at HRS
      unfold latS at HRS
      unfold maxLen at hm2
      clear hrd HDR
      have HPZ := Lib.hid (piv_at l[k])
      generalize l[k] = r at *
      have hrl : r.length ≤ 3 := by have := HRL.out; omega
      have HLD : Hid (leadF r = if pivF r < r.length then (pivF r : Int) else -1) := Lib.hid rfl
      have hp := HPV.out
      have HLE : Hid (leadF r = (pivF r : Int)) := Lib.hid (by rw [HLD.out, if_pos (by rw [HRL.out]; exact hp)])
      have HPP := Lib.hid (HPZ.out (by rw [HRL.out]; exact hp))
      have hcq := HO.out.cellAt (pivF r) (by rw [hcl.out]; exact hp)
      rw [← cl_get (by rw [hcl.out]; exact hp)] at hcq
      obtain ⟨b2, off2, rfl, hb2, hcc⟩ := HRD2.out.at (by have := HRL.out; omega)
      have hcr := hcc (pivF r) (by rw [HRL.out]; exact hp)
      rw [← cl_get (by rw [HRL.out]; exact hp)] at hcr
      have hy := HPP.out
      have HQ : Hid (quoW (cl cur (pivF r)) (cl r (pivF r)) = IntKind.i64.wrap (Int.tdiv (cl cur (pivF r)) (cl r (pivF r)))) := Lib.hid (by rw [wrap_i64_eq]; rfl)
      have HLC := Lib.hid (l27Lead_any _ r wr HRD2.out (by omega))
      rw [HLE.out] at HLC
      clear HPZ HPV HLD HLE HPP hcc
      have hrN : r.length = N := HRL.out
      rw [hrN] at HLC HRD2
      generalize leadF r = ld at *
      generalize pivF r = p at *
      generalize cl cur p = x at *
      generalize cl r p = y at *
      generalize quoW x y = qu at *
      rw [hrN] at hcell
      clear hrN
      have hpN : (p : Int) < (N : Int) := by omega
      go_wp2_with fail
      refine HLC.out.mono ?_
      rintro e w' ⟨rfl, rfl⟩
      clear HLC
      rcases ex : (Int.tmod x y != 0) with _ | _
      rotate_left
      · have F : Hid (RES = false) := Lib.hid (by rw [HRS.out, if_pos (by simpa using ex)])
        go_wp2_with fail
        go_quiet (fail)
        go_wp2
        go_ret
        exact ⟨ret_bool F.out.symm, bel_drewN HBW.out _⟩
      have F : Hid (RES = latS (l.drop (k + 1)) (subR cur qu r)) := Lib.hid (by rw [HRS.out, if_neg (by simpa using ex)])
      go_wp2_with fail
      go_quiet (fail)
      obtain ⟨wq, hwq⟩ : ∃ W, W = wr.drewN nq := ⟨_, rfl⟩
      have kq : wq.cell? ⟨gx, p, none⟩ = some (.int .i64 x) := by rw [hwq]; exact hcq
      have kr : wq.cell? ⟨b2, off2 + p, none⟩ = some (.int .i64 y) := by rw [hwq]; exact hcr
      have kh : wq.cell? ⟨b, off + k, none⟩ = some (.slice (some ⟨b2, off2, none⟩) N c2) := by rw [hwq]; exact hcell
      have KO : Hid (OwI wq w.heap.size (.slice (some ⟨gx, 0, none⟩) N cx) cur) := Lib.hid (by rw [hwq]; exact HO.out.drewN nq)
      have KR : Hid (RdI wq (.slice (some ⟨b2, off2, none⟩) N c2) r) := Lib.hid (by rw [hwq]; exact HRD2.out.drewN nq)
      have KB : Hid (Below w.heap.size w wq) := Lib.hid (by rw [hwq]; exact bel_drewN HBW.out nq)
      have KX : Hid (Below w4.heap.size w4 wq) := Lib.hid (by rw [hwq]; exact bel_drewN HBX.out nq)
      have ks : wq.heap.size = wr.heap.size := by rw [hwq]; rfl
      rw [← hwq]
      have hgq : gx < wq.heap.size := by omega
      have hbq : b2 < wq.heap.size := by omega
      have hbh : b < wq.heap.size := by omega
      clear hwq hcq hcr hcell ks HO HRD2 HBW HBX
      have K0 := Lib.hid kq
      have K1 := Lib.hid kr
      have K2 := Lib.hid kh
      go_wp2_with fail
      go_region_held3 (fun w' => w'.cell? ⟨gx, p, none⟩ = some (.int .i64 x) ∧ w'.cell? ⟨b2, off2 + p, none⟩ = some (.int .i64 y) ∧ w'.cell? ⟨b, off + k, none⟩ = some (.slice (some ⟨b2, off2, none⟩) N c2))
        (first | exact ⟨k0, k1, k2⟩ | go_keep)
        (first
          | (go_at_call 23; refine (l27Less_any _ _ cur r (IntKind.i64.wrap (Int.tdiv x y)) _ (KO.out.below ((Below.refl wq.heap.size wq).drew)).rd (KR.out.below ((Below.refl wq.heap.size wq).drew)) (by rw [hcl.out, HRL.out]; exact Nat.le_refl _) (by rw [hcl.out]; omega)).mono ?_; rintro e w5 ⟨r5, rfl, o5, b5⟩; have B5 := Lib.hid ((Below.refl wq.heap.size wq).drew.trans b5); have O5 := Lib.hid o5; have k0 := (B5.out.cell (p := ⟨gx, p, none⟩) hgq).trans K0.out; have k1 := (B5.out.cell (p := ⟨b2, off2 + p, none⟩) hbq).trans K1.out; have k2 := (B5.out.cell (p := ⟨b, off + k, none⟩) hbh).trans K2.out; clear b5 o5))
      rw [← HQ.out] at O5
      have HC5 : Hid ((subR cur qu r).length = N) := Lib.hid (by rw [subR_len]; exact hcl.out)
      have B5W := Lib.hid (KB.out.trans (B5.out.mono KB.out.size))
      have B5X := Lib.hid (KX.out.trans (B5.out.mono KX.out.size))
      have O5' : Hid (OwI w5 w.heap.size r5 (subR cur qu r)) := Lib.hid (O5.out.mono KB.out.size)
      go_wp2
      go_roundw
      case rel => exact ⟨k + 1, subR cur qu r, by omega, by go_num, O5'.out, HC5, F, B5W.out, B5X.out⟩
      case measure => simp [intOf]; omega
    · obtain rfl : k = l.length := by omega
      have F : Hid (zeroL cur = RES) := Lib.hid (by rw [HRS.out, List.drop_length]; rfl)
      have HZ := Lib.hid (l27Zero_any _ cur wr HO.out.arg (by rw [hcl.out]; omega))
      go_wp2_with fail
      refine HZ.out.mono ?_
      rintro e w' ⟨rfl, rfl⟩
      go_wp2
      go_ret
      exact ⟨ret_bool F.out, HBW.out⟩
end Go.Proofs.Ytjmjhhdjlompfaa
