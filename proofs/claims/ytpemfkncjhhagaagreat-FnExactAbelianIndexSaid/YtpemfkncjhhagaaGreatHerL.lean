/- The reference's LatticeIndex and InLattice. The program's HermiteForm and LatticeIndex. How great the Hermite form is. -/
import Derived.Test.YtpemfkncjhhagaaGreatIIL
import Derived.Test.YtpemfkncjhhagaaGreatHerG
import Derived.Test.YtpemfkncjhhagaaGreatHerK
namespace Go.Proofs.YtpemfkncjhhagaaGreat
set_option maxRecDepth 20000
set_option linter.unusedVariables false
set_option linter.unusedSimpArgs false
open Go.RowKit

theorem cnt_le (k : Nat) : ∀ l : List (List Int), (∀ d ∈ l, d.length = k) → cntL cI l = l.length * k
  | [], _ => by simp [cntL]
  | d :: l, h => by
    rw [cntL_cons, cnt_le k l fun e he => h e (by simp [he]), List.length_cons, Nat.add_mul, Nat.one_mul]
    have := h d (by simp)
    unfold cI
    omega
theorem herm_cnt (n : Int) (L : List (List Int)) : cntL cI (hermF n L).1 ≤ 1073741824 := by
  rcases e : (hermF n L).2 with _ | _
  · rw [hermF_no e]; simp [cntL]
  · have h := hermF_ech e
    have h1 := h.length
    have hn : inB n 1 3 = true := by
      rw [← rows27_eq] at e
      unfold rows27 at e
      simp only [Bool.and_eq_true] at e
      exact e.1.1.1
    have hn13 := inB_iff.1 hn
    rw [cnt_le n.toNat _ h.len]
    have : (hermF n L).1.length * n.toNat ≤ 3 * 3 := Nat.mul_le_mul (by omega) (by omega)
    omega
set_option maxHeartbeats 400000 in
theorem implHermiteForm_any (v : Value) (L : List (List Int)) (n : Int) (w : World) (h : RdII w v L) (hl : L.length ≤ 1073741824) (hr : ∀ r ∈ L, r.length ≤ 1073741824) :
    Calls Tryz.prog 54 #[v, .int .i64 n] w fun e w' => ∃ s, e = .returned s ∧ OwII w.heap.size w'.heap.size s (hermF n L).1 w' ∧ Below w.heap.size w w' := by
  have H := Lib.hid (hermite_any v L n w h hl hr)
  obtain ⟨A, cap, rfl, _⟩ := h.form
  clear h hr
  generalize hermF n L = R at *
  go_enter Tryz.func54, Tryz.ntmps54
  go_wp2_with fail
  refine H.out.mono ?_
  rintro e w1 ⟨s, rfl, o1, b1⟩
  obtain ⟨A1, c1, rfl, _⟩ := OwnL.len o1
  have O1 := Lib.hid o1
  have B1 := Lib.hid b1
  clear o1 b1
  go_wp2
  go_ret
  exact ⟨_, rfl, O1.out, B1.out⟩
set_option maxHeartbeats 800000 in
theorem implLatticeIndex_any (v : Value) (L : List (List Int)) (n : Int) (w : World) (h : RdII w v L) (hl : L.length ≤ 1073741824) (hr : ∀ r ∈ L, r.length ≤ 1073741824) :
    Calls Tryz.prog 57 #[v, .int .i64 n] w fun e w' => e = .returned (.int .i64 (latN L n)) ∧ Below w.heap.size w w' := by
  have H := Lib.hid (hermite_any v L n w h hl hr)
  have HE := Lib.hid (fun e => hermF_ech (n := n) (rows := L) e)
  have HN : Hid (latN L n = if (hermF n L).2 = true ∧ ¬ ((hermF n L).1.length : Int) < n then prodD (hermF n L).1 n.toNat else -1) := Lib.hid rfl
  have HI : Hid ((hermF n L).2 = true → inB n 1 3 = true) := Lib.hid fun e => by
    rw [← rows27_eq] at e
    unfold rows27 at e
    simp only [Bool.and_eq_true] at e
    exact e.1.1.1
  obtain ⟨A, cap, rfl, _⟩ := h.form
  clear h hr
  generalize latN L n = RES at *
  generalize hermF n L = R at *
  obtain ⟨l, ok⟩ := R
  dsimp only at HN HE HI H
  go_enter Tryz.func57, Tryz.ntmps57
  go_wp2_with fail
  refine H.out.mono ?_
  rintro e w1 ⟨s, rfl, o1, b1⟩
  obtain ⟨A1, c1, rfl, hc1, hm1, _⟩ := OwnL.len o1
  unfold maxLen at hm1
  have O1 := Lib.hid o1.rd
  have B1 := Lib.hid b1
  clear o1 b1
  cases ok
  · have F : Hid (RES = -1) := Lib.hid (by rw [HN.out, if_neg (fun h => by cases h.1)])
    go_wp2
    go_ret
    exact ⟨ret_int F.out.symm, B1.out⟩
  rcases e1 : decide ((l.length : Int) < n) with _ | _
  rotate_left
  · have F : Hid (RES = -1) := Lib.hid (by rw [HN.out, if_neg (fun h => by have h2 := h.2; simp at e1; omega)])
    go_wp2
    go_ret
    exact ⟨ret_int F.out.symm, B1.out⟩
  have hnl : ¬ (l.length : Int) < n := by simpa using e1
  have hn13 := inB_iff.1 (HI.out rfl)
  have hech := HE.out rfl
  have hlen := hech.length
  have hln : l.length = n.toNat := by omega
  have F : Hid (RES = prodD l l.length) := Lib.hid (by rw [HN.out, if_pos ⟨rfl, by omega⟩, hln])
  have HLN : Hid (∀ k (hk : k < l.length), l[k].length = l.length) := Lib.hid fun k hk => by rw [hech.len _ (List.getElem_mem hk), hln]
  have hl3 : l.length ≤ 3 := by omega
  clear hln hech hlen HE HI
  go_wp2
  go_loop [7, 26] (fun k i => ∃ q : Nat, q ≤ l.length ∧ i = .int .i64 q ∧ k = .int .i64 (prodD l q)) (fun _ i => l.length - (intOf i).toNat)
  case atStart => exact ⟨0, Nat.zero_le _, rfl, rfl⟩
  case round =>
    obtain ⟨q, hq, rfl, rfl⟩ := hrel
    by_cases hlt : q < l.length
    · obtain ⟨b, off, A2, c2, rfl, hb, hcell, hc2, hm2, hrd⟩ := O1.out.at hlt
      have HS := Lib.hid (prodD_succ l q)
      have hrl := HLN.out q hlt
      have HRL := Lib.hid hrl
      rw [rw_mem hlt] at HS
      have hql : q < l[q].length := by rw [hrl]; exact hlt
      clear hrl
      unfold maxLen at hm2
      generalize l[q] = r at *
      obtain ⟨b3, off3, rfl, hb3, hcc⟩ := hrd.at (by omega)
      have hc3 := hcc q hql
      rw [← cl_get hql] at hc3
      have hqI : (q : Int) < (r.length : Int) := by omega
      clear hcc hrd
      generalize cl r q = x at *
      generalize prodD l q = P at *
      go_wp2
      go_round
      case rel => exact ⟨q + 1, by omega, by go_num, by rw [HS.out]⟩
      case measure => simp [intOf]; omega
    · obtain rfl : q = l.length := by omega
      go_wp2
      go_ret
      exact ⟨ret_int F.out.symm, B1.out⟩
theorem latN_rows (L : List (List Int)) (n : Int) : latN L n = if rows27 n L = true ∧ ¬ ((hermF n L).1.length : Int) < n then prodD (hermF n L).1 n.toNat else -1 := by rw [rows27_eq]; rfl
theorem latF_rows (L : List (List Int)) (xs : List Int) : latF L xs = (rows27 xs.length L && (xs.all fun x => inB x (-1000000) 1000000) && latS (hermF xs.length L).1 xs) := by rw [rows27_eq]; rfl
theorem numOk_one (xs : List Int) (m : Int) : numOk m [xs] = xs.all fun x => inB x (-m) m := by unfold numOk; simp
theorem RdII_one' {w : World} {s : Value} {xs : List Int} (h : RdI w s xs) : RdII (w.alloc (.cells #[s] 33)) (.slice (some ⟨w.heap.size, 0, none⟩) 1 1) [xs] := by
  have hr := World.ownsRow_lit (e := 33) (size := 1) (base := 0) w #[s] 1 (Nat.zero_le _) (by unfold maxLen; omega) (by simp)
  refine ⟨[s], rfl, RdV.of_own (by simpa using hr), fun i hi hi' => ?_⟩
  have hi0 : i < 1 := hi
  obtain rfl : i = 0 := by omega
  exact h.alloc _
set_option maxHeartbeats 800000 in
theorem specLatticeIndex_any (v : Value) (L : List (List Int)) (n : Int) (w : World) (h : RdII w v L) (hl : L.length ≤ 1073741824) (hr : ∀ r ∈ L, r.length ≤ 1073741824) :
    Calls Tryz.prog 56 #[v, .int .i64 n] w fun e w' => e = .returned (.int .i64 (latN L n)) ∧ Below w.heap.size w w' := by
  have H := Lib.hid (specHermiteForm_any v L n w h hl hr)
  have HRD := Lib.hid h
  have HE := Lib.hid (fun e => hermF_ech (n := n) (rows := L) e)
  have HN := Lib.hid (latN_rows L n)
  have HR2 := Lib.hid (rows27_eq n L)
  have HI : Hid (rows27 n L = true → inB n 1 3 = true) := Lib.hid fun e => by
    unfold rows27 at e
    simp only [Bool.and_eq_true] at e
    exact e.1.1.1
  obtain ⟨A, cap, rfl, _⟩ := h.form
  have HRW := Lib.hid (fun W (b : Below w.heap.size w W) => l27Rows_any (.slice A L.length cap) L n W (HRD.out.below b) hl)
  clear h hr
  generalize latN L n = RES at *
  generalize hermF n L = R at *
  obtain ⟨l, ok⟩ := R
  dsimp only at HN HE H HR2
  generalize rows27 n L = RK at *
  go_enter Tryz.func56, Tryz.ntmps56
  go_wp2_with fail
  refine H.out.mono ?_
  rintro e w1 ⟨s, rfl, o1, b1⟩
  obtain ⟨A1, c1, rfl, hc1, hm1, _⟩ := OwnL.len o1
  unfold maxLen at hm1
  have O1 := Lib.hid o1.rd
  have B1 := Lib.hid b1
  clear o1 b1 H
  cases RK
  · have F : Hid (RES = -1) := Lib.hid (by rw [HN.out, if_neg (fun h => by cases h.1)])
    go_wp2_with fail
    refine (HRW.out w1 B1.out).mono ?_
    rintro e w' ⟨rfl, m, rfl⟩
    go_wp2
    go_ret
    exact ⟨ret_int F.out.symm, bel_drewN B1.out m⟩
  rcases e1 : decide ((l.length : Int) < n) with _ | _
  rotate_left
  · have F : Hid (RES = -1) := Lib.hid (by rw [HN.out, if_neg (fun h => by have h2 := h.2; simp at e1; omega)])
    go_wp2_with fail
    refine (HRW.out w1 B1.out).mono ?_
    rintro e w' ⟨rfl, m, rfl⟩
    go_wp2
    go_ret
    exact ⟨ret_int F.out.symm, bel_drewN B1.out m⟩
  have hnl : ¬ (l.length : Int) < n := by simpa using e1
  have hn13 := inB_iff.1 (HI.out rfl)
  have hech := HE.out HR2.out.symm
  have hlen := hech.length
  have hln : l.length = n.toNat := by omega
  have F : Hid (RES = prodD l l.length) := Lib.hid (by rw [HN.out, if_pos ⟨rfl, by omega⟩, hln])
  have HLN : Hid (∀ k (hk : k < l.length), l[k].length = l.length) := Lib.hid fun k hk => by rw [hech.len _ (List.getElem_mem hk), hln]
  have hl3 : l.length ≤ 3 := by omega
  obtain rfl : n = (l.length : Int) := by omega
  clear hln hech hlen HE HI HR2 hn13 hnl e1 HN
  go_wp2_with fail
  refine (HRW.out w1 B1.out).mono ?_
  rintro e w' ⟨rfl, m, rfl⟩
  have O2 : Hid (RdII (w1.drewN m) (.slice A1 l.length c1) l) := Lib.hid (O1.out.drewN m)
  have B2 : Hid (Below w.heap.size w (w1.drewN m)) := Lib.hid (bel_drewN B1.out m)
  generalize w1.drewN m = w2 at *
  clear O1 B1 HRW
  go_wp2
  go_loop [6, 7] (fun k i => ∃ q : Nat, q ≤ l.length ∧ i = .int .i64 q ∧ k = .int .i64 (prodD l q)) (fun _ i => l.length - (intOf i).toNat)
  case atStart => exact ⟨0, Nat.zero_le _, rfl, rfl⟩
  case round =>
    obtain ⟨q, hq, rfl, rfl⟩ := hrel
    by_cases hlt : q < l.length
    · obtain ⟨b, off, A2, c2, rfl, hb, hcell, hc2, hm2, hrd⟩ := O2.out.at hlt
      have HS := Lib.hid (prodD_succ l q)
      have hrl := HLN.out q hlt
      have HRL := Lib.hid hrl
      rw [rw_mem hlt] at HS
      have hql : q < l[q].length := by rw [hrl]; exact hlt
      clear hrl
      unfold maxLen at hm2
      generalize l[q] = r at *
      obtain ⟨b3, off3, rfl, hb3, hcc⟩ := hrd.at (by omega)
      have hc3 := hcc q hql
      rw [← cl_get hql] at hc3
      have hqI : (q : Int) < (r.length : Int) := by omega
      clear hcc hrd
      generalize cl r q = x at *
      generalize prodD l q = P at *
      go_wp2
      go_round
      case rel => exact ⟨q + 1, by omega, by go_num, by rw [HS.out]⟩
      case measure => simp [intOf]; omega
    · obtain rfl : q = l.length := by omega
      go_wp2
      go_ret
      exact ⟨ret_int F.out.symm, B2.out⟩
end Go.Proofs.YtpemfkncjhhagaaGreat
