/- The program's hermite. -/
import Derived.Test.YtjmjhhdjlompfaaHerG0
namespace Go.Proofs.Ytjmjhhdjlompfaa
set_option maxRecDepth 20000
set_option linter.unusedVariables false
set_option linter.unusedSimpArgs false
open Go.RowKit

set_option maxHeartbeats 8000000 in
theorem hermite_any (v : Value) (L : List (List Int)) (n : Int) (w : World) (h : RdII w v L) (hl : L.length ≤ 1073741824) (hr : ∀ r ∈ L, r.length ≤ 1073741824) :
    Calls Try.prog 17 #[v, .int .i64 n] w fun e w' => ∃ s, e = .returned (.tuple #[s, .bool (hermF n L).2]) ∧ OwII w.heap.size w'.heap.size s (hermF n L).1 w' ∧ Below w.heap.size w w' := by
  have H := Lib.hid h
  have HR := Lib.hid hr
  obtain ⟨A, cap, rfl, hcap, hm, _⟩ := h.form
  unfold maxLen at hm
  clear h hr
  have HF0 : Hid (inB n 1 3 = false → hermF n L = ([], false)) := Lib.hid fun e => by unfold hermF; rw [if_pos e]
  have HF1 : Hid (inB n 1 3 = true → (rowsOk n 1000000000 L && isHerm L) = true → hermF n L = (L, true)) := Lib.hid fun e e' => by unfold hermF; rw [if_neg (by rw [e]; decide), if_pos e']
  have HF2 : Hid (inB n 1 3 = true → (rowsOk n 1000000000 L && isHerm L) = false → (100 < L.length ∨ rowsOk n 100 L = false) → hermF n L = ([], false)) := Lib.hid fun e e' e'' => by unfold hermF; rw [if_neg (by rw [e]; decide), if_neg (by rw [e']; decide), if_pos e'']
  have HF3 : Hid (inB n 1 3 = true → (rowsOk n 1000000000 L && isHerm L) = false → ¬ (100 < L.length ∨ rowsOk n 100 L = false) → hermF n L = ((hermS L n.toNat).2, true)) := Lib.hid fun e e' e'' => by unfold hermF; rw [if_neg (by rw [e]; decide), if_neg (by rw [e']; decide), if_neg e'']
  generalize hermF n L = R at *
  have HLIT := Lib.hid (OwII_lit (lo := w.heap.size) w (Nat.le_refl _))
  go_enter Try.func17, Try.ntmps17
  go_wp2_with fail
  refine (within_any _ _ _ _).mono ?_
  rintro e w' ⟨rfl, rfl⟩
  rcases e1 : inB n 1 3 with _ | _
  · obtain rfl := HF0.out e1
    clear e1
    go_wp2
    go_ret2
    exact ⟨_, rfl, by simpa using HLIT.out, (Below.refl _ _).alloc (Nat.le_refl _) _⟩
  have hn13 := inB_iff.1 e1
  go_wp2_with fail
  refine (areRows_any _ L n 1000000000 w H.out hl (by omega) (by omega)).mono ?_
  rintro e w' ⟨rfl, rfl⟩
  have HAR := Lib.hid (fun W h => areRows_any (.slice A L.length cap) L n 100 W h hl (by omega) (by omega))
  have HIH : Hid (rowsOk n 1000000000 L = true → Calls Try.prog 35 #[.slice A L.length cap] w fun e w' => e = .returned (.bool (isHerm L)) ∧ ∃ n, w' = w.drewN n) := Lib.hid fun e => by
    rw [rowsOk_eq, Bool.and_eq_true] at e
    exact isHermite_any _ L n.toNat w H.out hl (fun r hr => by have := len_mem e.1 hr; omega) (by omega)
  rcases e2 : rowsOk n 1000000000 L with _ | _
  · have e4 := rowsOk_wide e2
    rcases e3 : decide ((100 : Int) < (L.length : Int)) with _ | _
    · go_wp2_with fail
      refine (HAR.out w H.out).mono ?_
      rintro e w' ⟨rfl, rfl⟩
      obtain rfl := HF2.out e1 (by rw [e2]; rfl) (.inr e4)
      rw [e4]
      clear e1 e2 e4
      go_wp2
      go_ret2
      exact ⟨_, rfl, by simpa using HLIT.out, (Below.refl _ _).alloc (Nat.le_refl _) _⟩
    · obtain rfl := HF2.out e1 (by rw [e2]; rfl) (.inr e4)
      clear e1 e2 e4
      go_wp2
      go_ret2
      exact ⟨_, rfl, by simpa using HLIT.out, (Below.refl _ _).alloc (Nat.le_refl _) _⟩
  go_wp2_with fail
  refine (HIH.out e2).mono ?_
  rintro e w' ⟨rfl, m0, rfl⟩
  obtain ⟨wd, hwd⟩ : ∃ wd, wd = w.drewN m0 := ⟨_, rfl⟩
  have HD : Hid (RdII wd (.slice A L.length cap) L) := Lib.hid (by rw [hwd]; exact H.out.drewN m0)
  have BD : Hid (Below w.heap.size w wd) := Lib.hid (by rw [hwd]; exact bel_drewN (Below.refl _ _) m0)
  have hsd : wd.heap.size = w.heap.size := by rw [hwd]; rfl
  have HSD := Lib.hid hsd
  have HLD : Hid (OwII w.heap.size (w.heap.size + 1) (.slice (some ⟨wd.heap.size, 0, none⟩) 0 0) [] (wd.alloc (.cells #[] 30))) := Lib.hid (by have := OwII_lit (lo := wd.heap.size) wd (Nat.le_refl _); rw [hsd] at this ⊢; exact this)
  rw [← hwd]
  clear hwd hsd HLIT HIH
  rcases e3 : isHerm L with _ | _
  rotate_left
  · obtain rfl := HF1.out e1 (by rw [e2, e3]; rfl)
    clear e1 e2 e3
    go_wp2_with fail
    refine (copyLists_any _ L wd HD.out hl HR.out).mono ?_
    rintro e w1 ⟨s1, rfl, o1, b1⟩
    have O1 := Lib.hid o1
    have B1 := Lib.hid b1
    clear o1 b1
    go_wp2
    go_ret2
    exact ⟨_, rfl, by have := O1.out; rw [HSD.out] at this; exact this, BD.out.trans (B1.out.mono (by rw [HSD.out]; exact Nat.le_refl _))⟩
  rcases e4 : decide ((100 : Int) < (L.length : Int)) with _ | _
  rotate_left
  · obtain rfl := HF2.out e1 (by rw [e2, e3]; rfl) (.inl (by simp at e4; omega))
    clear e1 e2 e3
    go_wp2
    go_ret2
    exact ⟨_, rfl, by have hz : (wd.alloc (.cells #[] 30)).heap.size = w.heap.size + 1 := by have := HSD.out; simp; omega
                      rw [hz]; exact HLD.out, BD.out.alloc (by rw [HSD.out]; exact Nat.le_refl _) _⟩
  go_wp2_with fail
  refine (HAR.out wd HD.out).mono ?_
  rintro e w' ⟨rfl, rfl⟩
  rcases e5 : rowsOk n 100 L with _ | _
  · obtain rfl := HF2.out e1 (by rw [e2, e3]; rfl) (.inr e5)
    clear e1 e2 e3 e5
    go_wp2
    go_ret2
    exact ⟨_, rfl, by have hz : (wd.alloc (.cells #[] 30)).heap.size = w.heap.size + 1 := by have := HSD.out; simp; omega
                      rw [hz]; exact HLD.out, BD.out.alloc (by rw [HSD.out]; exact Nat.le_refl _) _⟩
  have hL100 : L.length ≤ 100 := by simp at e4; omega
  obtain rfl := HF3.out e1 (by rw [e2, e3]; rfl) (fun h => h.elim (fun h => by omega) fun h => by rw [e5] at h; cases h)
  have HPH : Hid (∀ k, k ≤ n.toNat → PhI n.toNat k (hermS L k)) := Lib.hid (by
    rw [rowsOk_eq, Bool.and_eq_true] at e5
    exact elim_inv e1 e5.1 e5.2)
  obtain ⟨N, rfl⟩ : ∃ N : Nat, n = (N : Int) := ⟨n.toNat, by omega⟩
  have hN3 : 1 ≤ N ∧ N ≤ 3 := by omega
  rw [Int.toNat_natCast] at HPH
  clear e1 e2 e3 e5 HF0 HF1 HF2 HF3 HAR HLD e4
  go_wp2_with fail
  refine (copyLists_any _ L wd HD.out hl HR.out).mono ?_
  rintro e w1 ⟨s1, rfl, o1, b1⟩
  obtain ⟨hs1, hb1⟩ := o1.hb (Nat.le_refl _)
  have hsz1 := b1.size
  have HB1 := Lib.hid (BD.out.trans (b1.mono (by rw [HSD.out]; exact Nat.le_refl _)))
  have O1 := Lib.hid hb1
  clear o1 b1 hb1
  go_wp2_with fail
  obtain ⟨A1, c1, rfl, _⟩ := O1.out.form
  have hw1 : w.heap.size ≤ w1.heap.size := HB1.out.size
  have OUT0 : Hid (HB w.heap.size (w1.alloc (.cells #[] 30)) (.slice (some ⟨w1.heap.size, 0, none⟩) 0 0) [] []) := Lib.hid (by
    obtain ⟨hs, hh⟩ := (OwII_lit (lo := w.heap.size) w1 hw1).hb (by simp)
    obtain rfl : hs = [] := List.eq_nil_of_length_eq_zero hh.len
    exact hh)
  have HH0 : Hid (HH w.heap.size (w1.alloc (.cells #[] 30)) (.slice A1 L.length c1) hs1 L (.slice (some ⟨w1.heap.size, 0, none⟩) 0 0) [] []) := Lib.hid
    ⟨(O1.out.lo_le (by rw [HSD.out]; exact Nat.le_refl _)).below ((Below.refl _ _).alloc (Nat.le_refl _) _), OUT0.out, fun x hx hm => by
      have h1 := (O1.out.rg x hx).2
      rcases bl_mem hm with h | ⟨i, hi, _⟩
      · simp [Value.ownBlock] at h; omega
      · cases hi⟩
  have BZ : Hid (Below w.heap.size w (w1.alloc (.cells #[] 30))) := Lib.hid (HB1.out.alloc hw1 _)
  clear OUT0 O1
  go_wp2
  go_loopw [6, 7, 8] (fun left out i wr => ∃ (k : Nat) (hL hO : List Value), k ≤ N ∧ i = .int .i64 k ∧ HH w.heap.size wr left hL (hermS L k).1 out hO (hermS L k).2 ∧ Below w.heap.size w wr) (fun _ _ i _ => N - (intOf i).toNat)
  case atStart => exact ⟨0, hs1, [], Nat.zero_le _, rfl, HH0.out, BZ.out⟩
  case round =>
    obtain ⟨c, hL, hO, hk, rfl, hhh, hbel⟩ := hrel
    obtain ⟨wo, rfl⟩ : ∃ wo : World, wo = wr := ⟨_, rfl⟩
    have HW := Lib.hid hhh
    have HBW := Lib.hid hbel
    have hwo := hbel.size
    obtain ⟨Al, cl_, rfl, _⟩ := hhh.a.form
    obtain ⟨Ao, co, rfl, _⟩ := hhh.b.form
    have HP := Lib.hid (HPH.out c hk)
    clear hhh hbel
    by_cases hlt : c < N
    · have HSU := Lib.hid (hermS_succ L c)
      have hLL := hermS_len L c
      generalize hermS L c = st at *
      obtain ⟨LS, LO⟩ := st
      simp only at HW HP hLL
      obtain ⟨hLS, hLO⟩ := hLL
      have HRC := Lib.hid HP.out.rect
      have HBC : Hid (∀ i, mg LS c i ≤ 4000000000000000000) := Lib.hid fun i => by
        have h1 : mg LS c i ≤ bA c := HP.out.bd c (Nat.le_refl _) hlt i
        have h2 := (bA_le c).2
        omega
      have HEND := Lib.hid (end200 hlt HP.out.rect (HP.out.bd c (Nat.le_refl _) hlt))
      obtain ⟨RES, hRES⟩ : ∃ RES, RES = colI c 200 LS := ⟨_, rfl⟩
      have HRES := Lib.hid hRES
      clear hRES
      obtain ⟨nl, hnl⟩ : ∃ nl, nl = LS.length := ⟨_, rfl⟩
      rw [← hnl] at HW hLS ⊢
      have HNL := Lib.hid hnl
      clear hnl
      go_wp2
      go_loopw [9, 10] (fun at_ more wr => ∃ (rows : List (List Int)), HH w.heap.size wr (.slice Al nl cl_) hL rows (.slice Ao LO.length co) hO LO ∧ Below w.heap.size w wr ∧ rows.length = nl ∧ Rect N rows ∧ (∀ i, mg rows c i ≤ 4000000000000000000) ∧
          ((more = .bool true ∧ ∃ f, endI c f rows = true ∧ colI c f rows = RES) ∨ (more = .bool false ∧ ∃ P : Int, at_ = .int .i64 P ∧ (P, rows) = RES))) (fun _ more wr => boolOf more + muC c (hL.map (decV wr)))
      case atStart => exact ⟨LS, HW.out, HBW.out, HNL.out.symm, HRC.out, HBC.out, .inl ⟨rfl, 200, HEND.out, HRES.out.symm⟩⟩
      case round =>
        obtain ⟨rows, hh2, hbel2, hlen2, hrc2, hbd2, hcase⟩ := hrel
        have HW2 := Lib.hid hh2
        have HB2 := Lib.hid hbel2
        have HL2 := Lib.hid hlen2
        have HR2 := Lib.hid hrc2
        have HD2 := Lib.hid hbd2
        obtain ⟨wa, rfl⟩ : ∃ wa : World, wa = wr := ⟨_, rfl⟩
        clear hh2 hbel2 hlen2 hrc2 hbd2
        rcases hcase with ⟨rfl, f, hf1, hf2⟩ | ⟨rfl, P, rfl, hPR⟩
        · have HF1 := Lib.hid hf1
          have HF2 := Lib.hid hf2
          clear hf1 hf2
          go_wp2
          go_loopw [9, 53] (fun at_ i wr => ∃ k : Nat, k ≤ nl ∧ i = .int .i64 k ∧ at_ = .int .i64 (pickF rows c k) ∧ ∃ m, wr = wa.drewN m) (fun _ i _ => nl - (intOf i).toNat)
          case atStart => exact ⟨0, Nat.zero_le _, rfl, rfl, 0, rfl⟩
          case round =>
            obtain ⟨k, hk3, rfl, rfl, m3, hm3⟩ := hrel
            have HW3 : Hid (HH w.heap.size wr (.slice Al nl cl_) hL rows (.slice Ao LO.length co) hO LO) := Lib.hid (by rw [hm3]; exact HW2.out.drewN m3)
            have HM3 : Hid (∀ q, ∃ m, wr.drewN q = wa.drewN m) := Lib.hid fun q => ⟨_, by rw [hm3, World.drewN_drewN]⟩
            have HWM : Hid (wr = wa.drewN m3) := Lib.hid hm3
            clear hm3
            by_cases hlt3 : k < nl
            · obtain ⟨_, _, e3, _, _, hA3⟩ := HW3.out.a.form
              injection e3 with e3 e3b e3c
              clear e3b e3c
              obtain ⟨gl, hgl, _⟩ := hA3 (by have := HL2.out; omega)
              obtain rfl := e3.trans hgl
              clear e3 hA3
              obtain ⟨gk, ck, h1, hv1, h2, b1, b2, b3, b4, hI⟩ := HW3.out.a.num (by have := HL2.out; omega) (HR2.out k (by have := HL2.out; omega)) hlt
              have hPS := Lib.hid (pickF_succ rows c k)
              have hPR := pickF_range rows c k
              have HSET : Hid (pickF rows c (k + 1) = if cl (rw_ rows k) c ≠ 0 ∧ (pickF rows c k < 0 ∨ abs64 (cl (rw_ rows k) c) < abs64 (cl (rw_ rows (pickF rows c k).toNat) c)) then (k : Int) else pickF rows c k) := hPS
              have HROW : Hid (∀ j, j < rows.length → ∃ gk ck, wr.cell? ⟨gl, j, none⟩ = some (.slice (some ⟨gk, 0, none⟩) N ck) ∧ wr.cell? ⟨gk, c, none⟩ = some (.int .i64 (cl (rw_ rows j) c)) ∧ N ≤ ck ∧ ck ≤ maxLen ∧ I64 (cl (rw_ rows j) c)) := Lib.hid fun j hj => by
                obtain ⟨gk, ck, q1, _, q2, _, _, q3, q4, q5⟩ := HW3.out.a.num hj (HR2.out j hj) hlt
                exact ⟨gk, ck, q1, q2, q3, q4, q5⟩
              unfold maxLen at b4
              clear hPS hv1
              generalize cl (rw_ rows k) c = x at *
              generalize pickF rows c k = P at *
              rcases ex : (x != 0) with _ | _
              · have F : Hid (pickF rows c (k + 1) = P) := Lib.hid (by rw [HSET.out, if_neg (fun h => h.1 (by simpa using ex))])
                go_wp2_with fail
                go_quiet (fail)
                go_wp2
                go_roundw
                case rel => exact ⟨k + 1, by omega, by go_num, by rw [F.out], HM3.out _⟩
                case measure => simp [intOf]; omega
              have hx : x ≠ 0 := by simpa using ex
              rcases ep : decide (P < 0) with _ | _
              rotate_left
              · have F : Hid (pickF rows c (k + 1) = (k : Int)) := Lib.hid (by rw [HSET.out, if_pos ⟨hx, .inl (by simpa using ep)⟩])
                go_wp2_with fail
                go_quiet (fail)
                go_wp2
                go_roundw
                case rel => exact ⟨k + 1, by omega, by go_num, by rw [F.out], HM3.out _⟩
                case measure => simp [intOf]; omega
              have hp0 : 0 ≤ P := by simp at ep; omega
              obtain ⟨p, rfl⟩ : ∃ p : Nat, P = (p : Int) := ⟨P.toNat, by omega⟩
              have hpk : p < rows.length := by have := HL2.out; omega
              obtain ⟨gp, cp, q1, q2, q3, q4, hIy⟩ := HROW.out p hpk
              have hpI : (p : Int) < (nl : Int) := by omega
              unfold maxLen at q4
              rw [Int.toNat_natCast] at HSET
              generalize cl (rw_ rows p) c = y at *
              have HA1 : Hid (∀ W : World, Calls Try.prog 37 #[.int .i64 x] W fun e w' => e = .returned (.int .i64 (abs64 x)) ∧ W = w') := Lib.hid fun W => abs_any x W hI
              have HA2 : Hid (∀ W : World, Calls Try.prog 37 #[.int .i64 y] W fun e w' => e = .returned (.int .i64 (abs64 y)) ∧ W = w') := Lib.hid fun W => abs_any y W hIy
              generalize abs64 x = ax at *
              generalize abs64 y = ay at *
              clear HROW hI hIy hPR
              rcases ea : decide (ax < ay) with _ | _
              · have F : Hid (pickF rows c (k + 1) = (p : Int)) := Lib.hid (by rw [HSET.out, if_neg (fun h => h.2.elim (fun h => by omega) fun h => by simp at ea; omega)])
                go_wp2_with fail
                go_quiet (first | (go_at_call 37; first | exact quiet_left (HA1.out _) | exact quiet_add_left (HA1.out _)) | (go_at_call 37; first | exact quiet_left (HA2.out _) | exact quiet_add_left (HA2.out _)))
                go_wp2
                go_roundw
                case rel => exact ⟨k + 1, by omega, by go_num, by rw [F.out], HM3.out _⟩
                case measure => simp [intOf]; omega
              · have F : Hid (pickF rows c (k + 1) = (k : Int)) := Lib.hid (by rw [HSET.out, if_pos ⟨hx, .inr (by simpa using ea)⟩])
                go_wp2_with fail
                go_quiet (first | (go_at_call 37; first | exact quiet_left (HA1.out _) | exact quiet_add_left (HA1.out _)) | (go_at_call 37; first | exact quiet_left (HA2.out _) | exact quiet_add_left (HA2.out _)))
                go_wp2
                go_roundw
                case rel => exact ⟨k + 1, by omega, by go_num, by rw [F.out], HM3.out _⟩
                case measure => simp [intOf]; omega
            · obtain rfl : k = nl := by omega
              have HB3 : Hid (Below w.heap.size w wr) := Lib.hid (by rw [HWM.out]; exact bel_drewN HB2.out m3)
              clear HM3 HWM
              have HPK := Lib.hid (pick_spec HD2.out rows.length)
              have hnr : rows.length = k := HL2.out
              rw [hnr] at HPK
              obtain ⟨f', rfl⟩ : ∃ f', f = f' + 1 := by
                rcases f with _ | f'
                · exact absurd HF1.out (by simp [endI])
                · exact ⟨f', rfl⟩
              have HFE := Lib.hid HF1.out
              have HFC := Lib.hid HF2.out
              rw [endI_succ, hnr] at HFE
              rw [colI_succ, hnr] at HFC
              clear HF1 HF2 hnr
              generalize pickF rows c k = P at *
              rcases ep : decide (P < 0) with _ | _
              rotate_left
              · have hPn : P < 0 := by simpa using ep
                obtain rfl : P = -1 := by
                  rcases HPK.out with ⟨h, _⟩ | ⟨h, _⟩
                  · exact h
                  · omega
                have HRS : Hid ((-1, rows) = RES) := Lib.hid (by rw [← HFC.out, if_pos (by decide)])
                clear HFE HFC HPK ep hPn
                go_wp2
                go_loop [10, 87] (fun more i => ∃ q : Nat, q ≤ k ∧ i = .int .i64 q ∧ more = .bool false) (fun _ i => k - (intOf i).toNat)
                case atStart => exact ⟨0, Nat.zero_le _, rfl, rfl⟩
                case round =>
                  obtain ⟨q, hq, rfl, rfl⟩ := hrel
                  by_cases hlt4 : q < k
                  · obtain ⟨_, _, e3, _, _, hA3⟩ := HW3.out.a.form
                    injection e3 with e3 e3b e3c
                    clear e3b e3c
                    obtain ⟨gl, hgl, _⟩ := hA3 (by have := HL2.out; omega)
                    obtain rfl := e3.trans hgl
                    clear e3 hA3
                    obtain ⟨gk, ck, h1, _, _, _, _, b3, b4, _⟩ := HW3.out.a.num (k := q) (by have := HL2.out; omega) (HR2.out q (by have := HL2.out; omega)) hlt
                    go_wp2
                    go_round
                    case rel => exact ⟨q + 1, by omega, by go_num, rfl⟩
                    case measure => simp [intOf]; omega
                  · obtain rfl : q = k := by omega
                    go_wp2
                    go_roundw
                    case rel => exact ⟨rows, HW3.out, HB3.out, HL2.out, HR2.out, HD2.out, .inr ⟨rfl, -1, rfl, HRS.out⟩⟩
                    case measure => simp only [boolOf]; rw [HW3.out.a.dec, HW2.out.a.dec]; omega
              have hp0 : 0 ≤ P := by simp at ep; omega
              obtain ⟨j, rfl⟩ : ∃ j : Nat, P = (j : Int) := ⟨P.toNat, by omega⟩
              rw [Int.toNat_natCast] at HPK HFE HFC
              rw [if_neg (by omega)] at HFE HFC
              have hjk : j < k := by
                rcases HPK.out with ⟨h, _⟩ | ⟨_, h, _⟩
                · omega
                · exact h
              have HJ0 : Hid (mg rows c j ≠ 0) := Lib.hid (by
                rcases HPK.out with ⟨h, _⟩ | ⟨_, _, h, _⟩
                · omega
                · exact h)
              have HJM : Hid (∀ i, i < rows.length → mg rows c i ≠ 0 → mg rows c j ≤ mg rows c i) := Lib.hid (by
                rcases HPK.out with ⟨h, _⟩ | ⟨_, _, _, h⟩
                · omega
                · rw [HL2.out]; exact h)
              clear HPK ep
              have hj0I : (0 : Int) ≤ (j : Int) := by omega
              have hjkI : (j : Int) < (k : Int) := by omega
              go_wp2
              go_loopw [10, 87] (fun more i wr' => ∃ q : Nat, q ≤ k ∧ i = .int .i64 q ∧ more = .bool (moreF rows c j q) ∧ HH w.heap.size wr' (.slice Al k cl_) hL (rndF rows c j q) (.slice Ao LO.length co) hO LO ∧ Below w.heap.size w wr') (fun _ i _ => k - (intOf i).toNat)
              case atStart => exact ⟨0, Nat.zero_le _, rfl, rfl, HW3.out, HB3.out⟩
              case round =>
                obtain ⟨q, hq, rfl, rfl, hh4, hb4⟩ := hrel
                have HW4 := Lib.hid hh4
                have HB4 := Lib.hid hb4
                clear hh4 hb4
                by_cases hlt4 : q < k
                · have hqr : q < rows.length := by have := HL2.out; omega
                  have hjr : j < rows.length := by have := HL2.out; omega
                  obtain ⟨r1, r2, r3⟩ := rnd_rows (rows := rows) (c := c) (j := j) (k := q) (by omega)
                  have HNX := Lib.hid (rnd_next rows c j q hqr)
                  have HMX := Lib.hid (moreF_succ rows c j q)
                  have HHIT : Hid (hitR rows c j q = (decide (q ≠ j) && decide (cl (rw_ rows q) c ≠ 0))) := Lib.hid rfl
                  have HNW : Hid (newR rows c j q = subR (rw_ rows q) (wrap64 (Int.tdiv (cl (rw_ rows q) c) (cl (rw_ rows j) c))) (rw_ rows j)) := Lib.hid rfl
                  have HLQ := Lib.hid (HR2.out q hqr)
                  have HLJ := Lib.hid (HR2.out j hjr)
                  have HJN : Hid (cl (rw_ rows j) c ≠ 0) := Lib.hid fun e => HJ0.out (mg_zero.2 e)
                  have HL4 := Lib.hid r1
                  have HNQ : Hid (newR rows c j q = newR rows c j q) := Lib.hid rfl
                  rw [← r3] at HLQ
                  rw [← r2] at HLJ
                  obtain ⟨_, _, e3, _, _, hA3⟩ := HW4.out.a.form
                  injection e3 with e3 e3b e3c
                  clear e3b e3c
                  obtain ⟨gl, hgl, _⟩ := hA3 (by omega)
                  obtain rfl := e3.trans hgl
                  clear e3 hA3
                  obtain ⟨gk, ck, h1, hv1, h2, b1, b2, b3, b4, _⟩ := HW4.out.a.num (k := q) (by omega) HLQ.out hlt
                  obtain ⟨gj, cj, g1, gv1, g2, d1, d2, d3, d4, _⟩ := HW4.out.a.num (k := j) (by omega) HLJ.out hlt
                  have HOQ := Lib.hid (HW4.out.a.own2 (k := q) (by omega) hv1)
                  have HOJ := Lib.hid (HW4.out.a.own2 (k := j) (by omega) gv1)
                  have HGN : Hid (q ≠ j → gk ≠ gj) := Lib.hid fun hne e => hne (HW4.out.a.two (i := q) (j := j) (b := gk) (by rw [HW4.out.a.len]; omega) (by rw [HW4.out.a.len]; omega) (by rw [hv1]; rfl) (by rw [gv1, e]; rfl))
                  have HVQ := Lib.hid hv1
                  rw [r3] at h2 HOQ HLQ
                  rw [r2] at g2 HOJ HLJ
                  unfold maxLen at b4 d4
                  clear hv1 gv1 r1 r2 r3
                  generalize newR rows c j q = NR at *
                  generalize rw_ rows q = rq at *
                  generalize rw_ rows j = rj at *
                  generalize hitR rows c j q = HT at *
                  generalize moreF rows c j q = MQ at *
                  have hclq : cl rq c = cl rq c := rfl
                  rcases eq1 : ((q : Int) != (j : Int)) with _ | _
                  · have hqj : q = j := by simp at eq1; omega
                    have F1 : Hid (HT = false) := Lib.hid (by rw [HHIT.out, decide_eq_false (fun h => h hqj)]; rfl)
                    have F2 : Hid (rndF rows c j (q + 1) = rndF rows c j q) := Lib.hid (by rw [HNX.out, F1.out]; rfl)
                    have F3 : Hid (moreF rows c j (q + 1) = MQ) := Lib.hid (by rw [HMX.out, F1.out]; simp)
                    clear hqj
                    go_wp2
                    go_roundw
                    case rel => exact ⟨q + 1, by omega, by go_num, by rw [F3.out], by rw [F2.out]; exact HW4.out, HB4.out⟩
                    case measure => simp [intOf]; omega
                  have hqj : q ≠ j := by simp at eq1; omega
                  rcases ex : (cl rq c != 0) with _ | _
                  · have F1 : Hid (HT = false) := Lib.hid (by rw [HHIT.out, decide_eq_false (show ¬ cl rq c ≠ 0 by simpa using ex)]; simp)
                    have F2 : Hid (rndF rows c j (q + 1) = rndF rows c j q) := Lib.hid (by rw [HNX.out, F1.out]; rfl)
                    have F3 : Hid (moreF rows c j (q + 1) = MQ) := Lib.hid (by rw [HMX.out, F1.out]; simp)
                    generalize cl rq c = x at *
                    go_wp2
                    go_roundw
                    case rel => exact ⟨q + 1, by omega, by go_num, by rw [F3.out], by rw [F2.out]; exact HW4.out, HB4.out⟩
                    case measure => simp [intOf]; omega
                  have hx : cl rq c ≠ 0 := by simpa using ex
                  have F1 : Hid (HT = true) := Lib.hid (by rw [HHIT.out, decide_eq_true hqj, decide_eq_true hx]; rfl)
                  have F2 : Hid (rndF rows c j (q + 1) = (rndF rows c j q).set q NR) := Lib.hid (by rw [HNX.out, F1.out]; rfl)
                  have F3 : Hid (moreF rows c j (q + 1) = (MQ || decide (cl NR c ≠ 0))) := Lib.hid (by rw [HMX.out, F1.out, Bool.true_and])
                  have hne : gk ≠ gj := HGN.out hqj
                  have hy := HJN.out
                  have HGL : Hid (w.heap.size ≤ gl ∧ gl < wr.heap.size) := Lib.hid (HW4.out.a.rg gl (bl_own rfl))
                  have HQK : Hid (w.heap.size ≤ gk) := Lib.hid b1
                  generalize cl rq c = x at *
                  generalize cl rj c = y at *
                  go_wp2_with fail
                  have fA := BelW.cell h2 b2
                  have fB := BelW.cell g1 HGL.out.2
                  have fC := BelW.cell g2 d2
                  (refine wp_region_quiet_callD 17 (some 123) (by kernel_rfl) (by rfl) (by rfl) (by kernel_rfl) (by kernel_rfl) ?_; dsimp only [dumL, lastL]; (repeat (go_big_quiet_step (fail))); refine wpQuiet_nil ?_; intro uv wv hw'; obtain ⟨pq, hw''⟩ := hw'; have bv := pq.h; rw [← hw''] at bv; clear hw'' pq; simp only [Act.put, List.setIfInBounds_toArray, List.set_cons_zero, List.set_cons_succ])
                  have HV := Lib.hid bv
                  clear bv fA fB fC h1 h2 g1 g2 hclq
                  go_wp2_with fail
                  refine (subtract_any _ _ rq rj (wrap64 (Int.tdiv x y)) 0 wv (HOQ.out.below HV.out) (HOJ.out.rd.below HV.out) (fun b h h' => hne (by simp [Value.ownBlock] at h h'; omega)) (by rw [HLQ.out, HLJ.out]; exact Nat.le_refl _) (by rw [HLQ.out]; omega)).mono ?_
                  rintro e w5 ⟨rfl, o5, g5⟩
                  rw [← HNW.out] at o5
                  have hNRl : NR.length = N := by rw [HNW.out, subR_len, HLQ.out]
                  have hc5 := o5.cellAt c (by rw [hNRl]; exact hlt)
                  rw [← cl_get (by rw [hNRl]; exact hlt)] at hc5
                  have HH5 : Hid (HH w.heap.size w5 (.slice (some ⟨gl, 0, none⟩) k cl_) hL ((rndF rows c j q).set q NR) (.slice Ao LO.length co) hO LO) := Lib.hid ((HW4.out.below HV.out).setC1 (i := q) (by have := HL4.out; omega) (by rw [HVQ.out]; exact g5) (by rw [HVQ.out]; exact o5))
                  have HB5 : Hid (Below w.heap.size w w5) := Lib.hid ((HB4.out.trans (HV.out.mono HB4.out.size)).grown g5 (by have := HB4.out.size; have := HV.out.size; omega) fun x hx => by simp [Value.ownBlock] at hx; have := HQK.out; omega)
                  clear o5 g5 hNRl
                  generalize cl NR c = z at *
                  clear HNX HMX HHIT HNW HLQ HLJ HJN HL4 HNQ HOQ HOJ HGN HVQ HGL HQK HV HFE HFC HJ0 HJM F1 eq1 ex hx hqj hne hy
                  rcases MQ with _ | _
                  · rcases ez : (z != 0) with _ | _
                    · have F4 : Hid (moreF rows c j (q + 1) = false) := Lib.hid (by rw [F3.out, decide_eq_false (show ¬ z ≠ 0 by simpa using ez)]; rfl)
                      go_wp2
                      go_roundw
                      case rel =>
                        refine ⟨q + 1, by omega, by go_num, ?_, ?_, HB5.out⟩
                        · rw [F4.out]
                        · rw [F2.out]
                          with_reducible exact HH5.out
                      case measure => simp [intOf]; omega
                    · have F4 : Hid (moreF rows c j (q + 1) = true) := Lib.hid (by rw [F3.out, decide_eq_true (show z ≠ 0 by simpa using ez)]; rfl)
                      go_wp2
                      go_roundw
                      case rel =>
                        refine ⟨q + 1, by omega, by go_num, ?_, ?_, HB5.out⟩
                        · rw [F4.out]
                        · rw [F2.out]
                          with_reducible exact HH5.out
                      case measure => simp [intOf]; omega
                  · have F4 : Hid (moreF rows c j (q + 1) = true) := Lib.hid (by rw [F3.out]; rfl)
                    go_wp2
                    go_roundw
                    case rel =>
                      refine ⟨q + 1, by omega, by go_num, ?_, ?_, HB5.out⟩
                      · rw [F4.out]
                      · rw [F2.out]
                        with_reducible exact HH5.out
                    case measure => simp [intOf]; omega
                · obtain rfl : q = k := by omega
                  have hrn : rndF rows c j q = rnd rows c j := by unfold rnd; rw [HL2.out]
                  rw [hrn] at HW4
                  have HMU := Lib.hid (mu_rnd HR2.out hlt HD2.out HJ0.out)
                  have HMR : Hid (moreF rows c j q = moreF rows c j rows.length) := Lib.hid (by rw [HL2.out])
                  rcases em : moreF rows c j q with _ | _
                  · rw [em, if_neg (by decide)] at HFC
                    have HRS : Hid (((j : Int), rnd rows c j) = RES) := Lib.hid HFC.out
                    clear hrn
                    go_wp2
                    go_roundw
                    case rel => exact ⟨rnd rows c j, HW4.out, HB4.out, by rw [rnd_len]; exact HL2.out, rnd_rect HR2.out c j, rnd_bd HR2.out hlt HD2.out HJ0.out, .inr ⟨rfl, j, rfl, HRS.out⟩⟩
                    case measure => simp only [boolOf]; rw [HW4.out.a.dec, HW2.out.a.dec]; have := HMU.out.1; omega
                  · rw [em, if_pos rfl] at HFC HFE
                    clear hrn
                    go_wp2
                    go_roundw
                    case rel => exact ⟨rnd rows c j, HW4.out, HB4.out, by rw [rnd_len]; exact HL2.out, rnd_rect HR2.out c j, rnd_bd HR2.out hlt HD2.out HJ0.out, .inl ⟨rfl, f', HFE.out, HFC.out⟩⟩
                    case measure => simp only [boolOf]; rw [HW4.out.a.dec, HW2.out.a.dec]; have := HMU.out.2 HJM.out (by rw [← HMR.out]; exact em); omega
        · have HPR := Lib.hid (hPR.trans HRES.out)
          clear hPR HEND HBC HRC
          have HSTEP := Lib.hid (phI_step hN3.2 hlt HP.out)
          have HPF : Hid (phF c (LS, LO) = if P < 0 then (rows, LO) else (rows.eraseIdx P.toNat, LO.map (redR c (fixR c (rw_ rows P.toNat))) ++ [fixR c (rw_ rows P.toNat)])) := Lib.hid (by unfold phF; rw [← HPR.out])
          have HPC : Hid (0 ≤ P → P.toNat < rows.length ∧ 0 < cl (fixR c (rw_ rows P.toNat)) c) := Lib.hid fun h => by
            rcases HSTEP.out.2 with h1 | h1
            · simp only [← HPR.out] at h1; omega
            · simp only [← HPR.out] at h1; exact ⟨h1.2, h1.1⟩
          clear HPR HSTEP
          rw [← HSU.out] at HPF
          rcases ep : decide (P < 0) with _ | _
          rotate_left
          · have HS1 : Hid (hermS L (c + 1) = (rows, LO)) := Lib.hid (by rw [HPF.out, if_pos (by simpa using ep)])
            clear HPF HPC
            go_wp2
            go_roundw
            case rel => exact ⟨c + 1, hL, hO, by omega, by go_num, by rw [HS1.out]; exact HW2.out, HB2.out⟩
            case measure => simp [intOf]; omega
          have hp0 : 0 ≤ P := by simp at ep; omega
          obtain ⟨j, rfl⟩ : ∃ j : Nat, P = (j : Int) := ⟨P.toNat, by omega⟩
          obtain ⟨hjr, hfp⟩ := HPC.out hp0
          rw [if_neg (by omega)] at HPF
          rw [Int.toNat_natCast] at HPF hfp hjr
          clear HPC ep
          obtain ⟨_, _, e3, _, _, hA3⟩ := HW2.out.a.form
          injection e3 with e3 e3b e3c
          clear e3b e3c
          obtain ⟨gl, hgl, _⟩ := hA3 (by omega)
          obtain rfl := e3.trans hgl
          clear e3 hA3
          have hrN := HR2.out j hjr
          obtain ⟨gf, cf, h1, hv1, h2, b1, b2, b3, b4, _⟩ := HW2.out.a.num hjr hrN hlt
          have HOF := Lib.hid (HW2.out.a.own2 hjr hv1)
          have HVF := Lib.hid hv1
          have HHL : Hid (hL.length = nl) := Lib.hid (by rw [HW2.out.a.len, HL2.out])
          have HRN := Lib.hid hrN
          have HGL : Hid (w.heap.size ≤ gl ∧ gl < wa.heap.size) := Lib.hid (HW2.out.a.rg gl (bl_own rfl))
          have hcap2 : nl ≤ cl_ ∧ cl_ ≤ maxLen := by
            obtain ⟨_, _, e, q1, q2, _⟩ := HW2.out.a.form
            injection e with _ q4 q5
            have := HL2.out
            exact ⟨by omega, by omega⟩
          unfold maxLen at b4 hcap2
          obtain ⟨hcp1, hcp2⟩ := hcap2
          have hjn : j < nl := by have := HL2.out; omega
          clear hrN hv1
          have z1 : (0 : Int) ≤ (j : Int) := by omega
          have z2 : (j : Int) ≤ (cl_ : Int) := by omega
          have z3 : (j : Int) + 1 ≤ (nl : Int) := by omega
          have z4 : (nl : Int) ≤ (cl_ : Int) := by omega
          have z5 : (0 : Int) ≤ (j : Int) + 1 := by omega
          have z6 : (j : Int) + 1 ≤ (cl_ : Int) := by omega
          have z7 : (j : Int) < (nl : Int) := by omega
          have zw : IntKind.i64.wrap ((j : Int) + 1) = (j : Int) + 1 := by rw [IntKind.wrap_i64]; omega
          have OC := Lib.hid (owns_cut HW2.out.a.row (i := j) (by rw [HHL.out]; omega))
          have HONE := Lib.hid HW2.out.a.ones
          -- behind the erasing append
          have HER : Hid (∀ v9 w9, w9.ownsRow 0 30 1 v9 ((hL.take j).length + (nl - (j + 1))) (hL.take j ++ hL.drop (j + 1)) → wa.drew.grownBy w9 (some gl) → (v9.ownBlock = some gl ∨ v9.ownBlock = some wa.drew.heap.size) →
              HB w.heap.size w9 v9 (hL.eraseIdx j) (rows.eraseIdx j) ∧ OwI w9 0 (.slice (some ⟨gf, 0, none⟩) N cf) (rw_ rows j) ∧ HB w.heap.size w9 (.slice Ao LO.length co) hO LO ∧ (∀ x ∈ bl v9 (hL.eraseIdx j), x ∉ bl (.slice Ao LO.length co) hO) ∧ gf ∉ bl v9 (hL.eraseIdx j) ∧ gf ∉ bl (.slice Ao LO.length co) hO ∧ gf < w9.heap.size ∧ Below w.heap.size w w9) := Lib.hid fun v9 w9 hrow hg hat => by
            have hs9 : wa.heap.size ≤ w9.heap.size := hg.size
            have hlen : (hL.take j).length + (nl - (j + 1)) = hL.length - 1 := by rw [List.length_take, HHL.out]; omega
            rw [hlen] at hrow
            obtain ⟨q1, q2, q3⟩ := (HW2.out.a.drew).erase hjr hrow hg hat
            rw [HVF.out] at q2
            obtain ⟨q4, q5, q6⟩ := q3 gf (by rw [HVF.out]; rfl)
            have hob : HB w.heap.size w9 (.slice Ao LO.length co) hO LO := HW2.out.b.drew.grown hg fun b hb hm => by
              injection hb with hb
              exact HW2.out.ap b (bl_own (by rw [← hb]; rfl)) hm
            refine ⟨q1, q2, hob, fun x hx hm => ?_, q4, HW2.out.ap gf (bl_hd (i := j) (by rw [HHL.out]; exact hjn) (by rw [HVF.out]; rfl)), q6, ?_⟩
            · rcases bl_erase (v := .slice (some ⟨gl, 0, none⟩) nl cl_) hx with h | h
              · rcases hat with e | e
                · rw [e] at h; injection h with h; exact HW2.out.ap x (bl_own (by rw [← h]; rfl)) hm
                · rw [e] at h; injection h with h; have := (HW2.out.b.rg x hm).2; have hq : wa.drew.heap.size = wa.heap.size := rfl; omega
              · exact HW2.out.ap x h hm
            · exact (HB2.out.drew).grown hg (show w.heap.size ≤ wa.heap.size from HB2.out.size) fun b hb => by injection hb with hb; have := HGL.out.1; omega
          have HFR : Hid (∀ t, I64 (cl (rw_ rows j) t)) := Lib.hid fun t => by
            by_cases ht : t < (rw_ rows j).length
            · rw [cl_get ht]; exact HOF.out.2 _ (by simp)
            · rw [cl_out (by omega)]; exact ⟨by omega, by omega⟩
          have HFN : Hid (redR c = fun f d => subR d (floorW (cl d c) (cl f c)) f) := Lib.hid rfl
          have hnew : (hL.drop (j + 1)).length = nl - (j + 1) := by rw [List.length_drop, HHL.out]
          have HNEW := Lib.hid hnew
          have HDO : Hid (∀ u ∈ hL.drop (j + 1), u.oneCell' = true) := Lib.hid fun u hu => HONE.out u (List.mem_of_mem_drop hu)
          have HTK : Hid ((hL.take j).length + (nl - (j + 1)) ≤ 1073741824) := Lib.hid (by rw [List.length_take]; omega)
          have HFC2 : Hid (∀ i u, (hL.drop (j + 1))[i]? = some u → wa.drew.cell? ((⟨gl, j + 1, none⟩ : Addr).add i) = some u) := Lib.hid fun i u hu => by
            rw [List.getElem?_drop] at hu
            have hlt5 := (List.getElem?_eq_some_iff.1 hu).1
            have hc := (HW2.out.a.at (k := j + 1 + i) (by rw [← HW2.out.a.len]; exact hlt5)).1
            rw [hd_mem hlt5] at hc
            rw [List.getElem?_eq_getElem hlt5] at hu
            injection hu with hu
            rw [← hu, Addr.add_lit]
            exact hc
          clear hnew
          generalize rows.eraseIdx j = rowsE at *
          generalize hL.eraseIdx j = hLE at *
          have HFX : Hid (0 < cl (fixR c (rw_ rows j)) c) := Lib.hid hfp
          have HFL : Hid (fixR c (rw_ rows j) = if cl (rw_ rows j) c < 0 then (rw_ rows j).map negW else rw_ rows j) := Lib.hid rfl
          clear hfp
          generalize fixR c (rw_ rows j) = fx at *
          generalize rw_ rows j = fr at *
          by_cases hcu : cl_ = j + 1
          · have hz0 : nl - (j + 1) = 0 := by omega
            have HNI : Hid (∀ i u, (hL.drop (j + 1))[i]? = some u → wa.drew.cell? ((⟨gl, 0, none⟩ : Addr).add i) = some u) := Lib.hid fun i u hu => by
              have := (List.getElem?_eq_some_iff.1 hu).1
              have := HNEW.out
              omega
            clear hz0 z2 z4 z6
            subst hcu
            have y1 : (j : Int) ≤ (j : Int) + 1 := by omega
            have y2 : (nl : Int) ≤ (j : Int) + 1 := by omega
            go_wp2_with fail
            go_region_held3 (fun w' => True) (trivial)
              (first | (refine step_append_hdrs rfl (.tmp 141) (.tmp 145) rfl _ (hL.take j) (show wa.drew.ownsRow 0 30 1 (.slice (some ⟨gl, 0, none⟩) j (j + 1)) _ _ from OC.out) (by rfl) _ _ _ (hL.drop (j + 1)) HNEW.out HNI.out HDO.out (by rfl) HTK.out ?_; intro v9 w9 o9 g9 p9; have X9 := Lib.hid (HER.out v9 w9 o9 g9 p9); clear o9 g9 p9))
            obtain ⟨w9, hw9⟩ : ∃ W, W = wa.drew := ⟨_, rfl⟩
            obtain ⟨v9, hv9⟩ : ∃ v, v = Value.slice (some ⟨gl, 0, none⟩) j (j + 1) := ⟨_, rfl⟩
            rw [← hw9, ← hv9]
            have X9 := Lib.hid (HER.out v9 w9 (by
              have e1 : hL.drop (j + 1) = [] := List.drop_eq_nil_of_le (by rw [HHL.out]; exact hcp1)
              have e2 : nl - (j + 1) = 0 := by omega
              rw [hv9, hw9, e1, e2, List.append_nil, Nat.add_zero]
              exact OC.out) (by rw [hw9]; exact World.grownBy.refl _ _) (.inl (by rw [hv9]; rfl)))
            clear hv9 hw9
            obtain ⟨hbL, hof, hbO, hap, hg1, hg2, hg3, hbel9⟩ := X9.out
            obtain ⟨A9, c9, rfl, _, _, _⟩ := hbL.form
            have HL9 := Lib.hid hbL
            have HF9 := Lib.hid hof
            have HO9 := Lib.hid hbO
            have HAP := Lib.hid hap
            have HG1 := Lib.hid hg1
            have HG2 := Lib.hid hg2
            have HG3 := Lib.hid hg3
            have HB9 := Lib.hid hbel9
            have HGF : Hid (w.heap.size ≤ gf) := Lib.hid b1
            have hcx := hof.cellAt c (by rw [HRN.out]; exact hlt)
            rw [← cl_get (by rw [HRN.out]; exact hlt)] at hcx
            clear X9 hbL hof hbO hap hg1 hg2 hg3 hbel9 HER HNEW HDO HTK HFC2 OC HONE h1 h2 HHL HGL HVF HOF HW2 HB2 HL2 HR2 HD2 HFR HFN
            have HFN2 : Hid (fx.length = N) := Lib.hid (by rw [HFL.out]; split <;> simp [HRN.out])
            rcases ex : decide (cl fr c < 0) with _ | _
            · have hfx : fx = fr := by rw [HFL.out, if_neg (by simpa using ex)]
              have FOw : Hid (OwI w9 0 (.slice (some ⟨gf, 0, none⟩) N cf) fx) := Lib.hid (by rw [hfx]; exact HF9.out)
              clear hfx
              have HLw := HL9
              have HOw := HO9
              have HBw := HB9
              have HGw := HG3
              generalize cl fr c = x9 at *
              go_wp2
              go_loopw [168] (fun i wr => ∃ k : Nat, k ≤ LO.length ∧ i = .int .i64 k ∧ HB w.heap.size wr (.slice Ao LO.length co) hO ((LO.take k).map (redR c fx) ++ LO.drop k) ∧ HB w.heap.size wr (.slice A9 rowsE.length c9) hLE rowsE ∧ OwI wr 0 (.slice (some ⟨gf, 0, none⟩) N cf) fx ∧ Below w.heap.size w wr ∧ gf < wr.heap.size) (fun i _ => LO.length - (intOf i).toNat)
              case atStart => exact ⟨0, Nat.zero_le _, rfl, by simpa using HOw.out, HLw.out, FOw.out, HBw.out, HGw.out⟩
              case round =>
                obtain ⟨k, hk6, rfl, r1, r2, r3, r4, r5⟩ := hrel
                have HR1 := Lib.hid r1
                have HR2' := Lib.hid r2
                have HR3 := Lib.hid r3
                have HR4 := Lib.hid r4
                have HR5 := Lib.hid r5
                clear r1 r2 r3 r4
                by_cases hlt6 : k < LO.length
                · have hat6 := red_at LO (redR c fx) k hlt6
                  have HST6 := Lib.hid (red_step LO (redR c fx) k hlt6)
                  have HDN : Hid ((rw_ LO k).length = N) := Lib.hid (HP.out.olen _ (by rw [rw_mem hlt6]; exact List.getElem_mem hlt6))
                  have HL6 := Lib.hid hat6.2
                  have HD6 := Lib.hid hat6.1
                  obtain ⟨_, _, e3, _, _, hA3⟩ := HR1.out.form
                  injection e3 with e3 e3b e3c
                  clear e3b e3c
                  obtain ⟨go_, hgo, _⟩ := hA3 (by rw [hat6.2]; omega)
                  obtain rfl := e3.trans hgo
                  clear e3 hA3
                  obtain ⟨gk, ck, h1, hv1, h2, b1, b2, b3, b4, _⟩ := HR1.out.num (k := k) (by rw [hat6.2]; exact hlt6) (by rw [hat6.1]; exact HDN.out) hlt
                  have HOK := Lib.hid (HR1.out.own2 (k := k) (by rw [hat6.2]; exact hlt6) hv1)
                  rw [hat6.1] at h2 HOK
                  have HVK := Lib.hid hv1
                  have HKB : Hid (gk ∈ bl (.slice (some ⟨go_, 0, none⟩) LO.length co) hO) := Lib.hid (bl_hd (i := k) (by rw [HR1.out.len, hat6.2]; exact hlt6) (by rw [hv1]; rfl))
                  have hfN : fx.length = N := HFN2.out
                  have hcf := HR3.out.cellAt c (by omega)
                  rw [← cl_get (by omega)] at hcf
                  have hgo2 := (HR1.out.rg go_ (bl_own rfl)).2
                  unfold maxLen at b4
                  have hy := HFX.out
                  have HRED : Hid (redR c fx (rw_ LO k) = subR (rw_ LO k) (floorW (cl (rw_ LO k) c) (cl fx c)) fx) := Lib.hid rfl
                  clear hat6 hv1 hfN
                  generalize redR c fx (rw_ LO k) = DN at *
                  generalize rw_ LO k = d at *
                  generalize cl d c = x6 at *
                  generalize cl fx c = y6 at *
                  have HFLO : Hid (∀ W : World, Calls Try.prog 38 #[.int .i64 x6, .int .i64 y6] W fun e w' => e = .returned (.int .i64 (floorW x6 y6)) ∧ W = w') := Lib.hid fun W => floor_any x6 y6 W hy
                  generalize floorW x6 y6 = q6 at *
                  go_wp2_with fail
                  have fA := BelW.cell h2 b2
                  have fB := BelW.cell hcf HR5.out
                  (refine wp_region_quiet_callD 11 (some 183) (by kernel_rfl) (by rfl) (by rfl) (by kernel_rfl) (by kernel_rfl) ?_; dsimp only [dumL, lastL]; (repeat (go_big_quiet_step ((go_at_call 38; exact Calls.bel_same (HFLO.out _))))); refine wpQuiet_nil ?_; intro uv wv hw'; obtain ⟨pq, hw''⟩ := hw'; have bv := pq.h; rw [← hw''] at bv; clear hw'' pq; simp only [Act.put, List.setIfInBounds_toArray, List.set_cons_zero, List.set_cons_succ])
                  have HV := Lib.hid bv
                  clear bv fA fB h1 h2 hcf
                  go_wp2_with fail
                  refine (subtract_any _ _ d fx q6 0 wv (HOK.out.below HV.out) (HR3.out.rd.below HV.out) (fun b h h' => by simp [Value.ownBlock] at h h'; exact HG2.out (by rw [h, ← h']; exact HKB.out)) (by rw [HDN.out, HFN2.out]; exact Nat.le_refl _) (by rw [HDN.out]; omega)).mono ?_
                  rintro e w5 ⟨rfl, o5, g5⟩
                  rw [← HRED.out] at o5
                  have HS1 : Hid (HB w.heap.size w5 (.slice (some ⟨go_, 0, none⟩) LO.length co) hO ((LO.take (k + 1)).map (redR c fx) ++ LO.drop (k + 1))) := Lib.hid (by
                    have := (HR1.out.below HV.out).setC (i := k) (w' := w5) (r := DN) (by rw [HL6.out]; exact hlt6) (by rw [HVK.out]; exact g5) (by rw [HVK.out]; exact o5)
                    rw [HST6.out] at this
                    exact this)
                  have HS2 : Hid (HB w.heap.size w5 (.slice A9 rowsE.length c9) hLE rowsE) := Lib.hid ((HR2'.out.below HV.out).grown g5 fun b hb hm => HAP.out b hm (by simp [Value.ownBlock] at hb; rw [← hb]; exact HKB.out))
                  have HS3 : Hid (OwI w5 0 (.slice (some ⟨gf, 0, none⟩) N cf) fx) := Lib.hid ((HR3.out.below HV.out).kept g5 (.inr fun e => by simp [Value.ownBlock] at e; exact HG2.out (by rw [e]; exact HKB.out)))
                  have HS4 : Hid (Below w.heap.size w w5) := Lib.hid ((HR4.out.trans (HV.out.mono HR4.out.size)).grown g5 (by have := HR4.out.size; have := HV.out.size; omega) fun x hx => by simp [Value.ownBlock] at hx; omega)
                  have hs5 : gf < w5.heap.size := by have := HV.out.size; have := g5.size; have := HR5.out; omega
                  clear o5 g5
                  go_wp2
                  go_roundw
                  case rel => exact ⟨k + 1, by omega, by go_num, HS1.out, HS2.out, HS3.out, HS4.out, hs5⟩
                  case measure => simp [intOf]; omega
                · obtain rfl : k = LO.length := by omega
                  have hfin : (LO.take LO.length).map (redR c fx) ++ LO.drop LO.length = LO.map (redR c fx) := by rw [List.take_length, List.drop_length, List.append_nil]
                  rw [hfin] at HR1
                  clear hfin
                  have HWA : Hid (Below wr.heap.size wr (wr.alloc (.cells #[.slice (some ⟨gf, 0, none⟩) N cf] 30))) := Lib.hid ((Below.refl _ _).alloc (Nat.le_refl _) _)
                  have HROW := Lib.hid (HR1.out.below HWA.out)
                  have hol : hO.length = LO.length := by rw [HR1.out.len, List.length_map]
                  have HOL := Lib.hid hol
                  have hol3 : hO.length ≤ 3 := by omega
                  have HVO : Hid (∃ A, Value.slice Ao LO.length co = A) := Lib.hid ⟨_, rfl⟩
                  clear hol
                  go_wp2_with (at_builtin; refine append_hdrs rfl (.tmp 185) (.tmp 187) rfl _ hO HROW.out.row (by rfl) ⟨wr.heap.size, 0, none⟩ 1 1 [.slice (some ⟨gf, 0, none⟩) N cf] rfl (cell_one_new _ _ _) (fun u hu => by simp at hu; subst hu; rfl) (by rfl) (by simp; omega) ?_; intro v8 w8 o8 g8 p8)
                  have hwsz : (wr.alloc (.cells #[.slice (some ⟨gf, 0, none⟩) N cf] 30)).heap.size = wr.heap.size + 1 := by simp
                  have hw4 := HR4.out.size
                  have HPU : Hid (HB w.heap.size w8 v8 (hO ++ [.slice (some ⟨gf, 0, none⟩) N cf]) (LO.map (redR c fx) ++ [fx])) := Lib.hid (HROW.out.pushH (f := .slice (some ⟨gf, 0, none⟩) N cf) (r := fx) (by simpa using o8) g8 p8 (by rw [hwsz]; omega) (HR3.out.below HWA.out) fun b hb => by
                    simp [Value.ownBlock] at hb
                    subst hb
                    exact ⟨HGF.out, by have := HR5.out; omega, HG2.out⟩)
                  have HLE8 : Hid (HB w.heap.size w8 (.slice A9 rowsE.length c9) hLE rowsE) := Lib.hid ((HR2'.out.below HWA.out).grown g8 fun b hb hm => HAP.out b hm (bl_own hb))
                  have HB8 : Hid (Below w.heap.size w w8) := Lib.hid ((HR4.out.trans (HWA.out.mono hw4)).grown g8 (by rw [hwsz]; omega) fun b hb => (HR1.out.rg b (bl_own hb)).1)
                  have HAP8 : Hid (∀ x ∈ bl (.slice A9 rowsE.length c9) hLE, x ∉ bl v8 (hO ++ [.slice (some ⟨gf, 0, none⟩) N cf])) := Lib.hid fun x hx hm => by
                    have hxs := (HR2'.out.rg x hx).2
                    rcases bl_push (v := .slice Ao LO.length co) hm with h | h | h
                    · rcases p8 with e | e
                      · rw [e] at h; exact HAP.out x hx (bl_own h)
                      · rw [e] at h; injection h with h; rw [hwsz] at h; omega
                    · exact HAP.out x hx h
                    · simp [Value.ownBlock] at h; exact HG1.out (by rw [h]; exact hx)
                  have HS9 : Hid (hermS L (c + 1) = (rowsE, LO.map (redR c fx) ++ [fx])) := HPF
                  clear o8 g8 p8 hwsz
                  go_wp2
                  go_roundw
                  case rel => exact ⟨c + 1, hLE, hO ++ [.slice (some ⟨gf, 0, none⟩) N cf], by omega, by go_num, by rw [HS9.out]; exact ⟨HLE8.out, HPU.out, HAP8.out⟩, HB8.out⟩
                  case measure => simp [intOf]; omega
            · have hfx : fx = fr.map negW := by rw [HFL.out, if_pos (by simpa using ex)]
              have HFM := Lib.hid hfx
              clear hfx
              generalize cl fr c = x9 at *
              go_wp2
              go_loopw [154] (fun i wr => ∃ k : Nat, k ≤ N ∧ i = .int .i64 k ∧ OwI wr 0 (.slice (some ⟨gf, 0, none⟩) N cf) ((fr.take k).map negW ++ fr.drop k) ∧ w9.grownBy wr (some gf)) (fun i _ => N - (intOf i).toNat)
              case atStart => exact ⟨0, Nat.zero_le _, rfl, by simpa using HF9.out, World.grownBy.refl _ _⟩
              case round =>
                obtain ⟨k, hk5, rfl, o5, g5⟩ := hrel
                have HO5 := Lib.hid o5
                have HG5 := Lib.hid g5
                clear o5 g5
                by_cases hlt5 : k < N
                · have hkf : k < fr.length := by rw [HRN.out]; exact hlt5
                  have hTl : k < ((fr.take k).map negW ++ fr.drop k).length := by simp; omega
                  have hc0 := HO5.out.cellAt k hTl
                  rw [neg_at fr k hkf hTl] at hc0
                  have hf0 := HO5.out.free k
                  have HS5 := Lib.hid (neg_step fr k hkf)
                  have HST5 : Hid (∀ z, I64 z → OwI (wr.setCell ⟨gf, k, none⟩ (.int .i64 z)) 0 (.slice (some ⟨gf, 0, none⟩) N cf) (((fr.take k).map negW ++ fr.drop k).set k z) ∧ wr.grownBy (wr.setCell ⟨gf, k, none⟩ (.int .i64 z)) (some gf)) := Lib.hid fun z hz => HO5.out.set k z hz
                  clear hTl
                  have HNG : Hid (negW fr[k] = wrap64 (-fr[k])) := Lib.hid rfl
                  generalize fr[k] = z5 at *
                  go_wp2
                  go_roundw
                  case rel =>
                    refine ⟨k + 1, by omega, by go_num, ?_, ?_⟩
                    · rw [← HS5.out, HNG.out]
                      exact (HST5.out _ (I64_wrap0 _)).1
                    · exact HG5.out.trans (HST5.out _ (I64_wrap0 _)).2
                  case measure => simp [intOf]; omega
                · obtain rfl : N = k := by omega
                  have hfull : (fr.take N).map negW ++ fr.drop N = fx := by
                    rw [HFM.out, ← HRN.out, List.take_length, List.drop_length, List.append_nil]
                  rw [hfull] at HO5
                  clear hfull
                  have FOw := HO5
                  have HLw : Hid (HB w.heap.size wr (.slice A9 rowsE.length c9) hLE rowsE) := Lib.hid (HL9.out.grown HG5.out fun b hb hm => by injection hb with hb; exact HG1.out (by rw [hb]; exact hm))
                  have HOw : Hid (HB w.heap.size wr (.slice Ao LO.length co) hO LO) := Lib.hid (HO9.out.grown HG5.out fun b hb hm => by injection hb with hb; exact HG2.out (by rw [hb]; exact hm))
                  have HBw : Hid (Below w.heap.size w wr) := Lib.hid (HB9.out.grown HG5.out HB9.out.size fun b hb => by injection hb with hb; have := HGF.out; omega)
                  have HGw : Hid (gf < wr.heap.size) := Lib.hid (by have := HG3.out; have := HG5.out.size; omega)
                  clear HG5
                  go_wp2
                  go_loopw [168] (fun i wr => ∃ k : Nat, k ≤ LO.length ∧ i = .int .i64 k ∧ HB w.heap.size wr (.slice Ao LO.length co) hO ((LO.take k).map (redR c fx) ++ LO.drop k) ∧ HB w.heap.size wr (.slice A9 rowsE.length c9) hLE rowsE ∧ OwI wr 0 (.slice (some ⟨gf, 0, none⟩) N cf) fx ∧ Below w.heap.size w wr ∧ gf < wr.heap.size) (fun i _ => LO.length - (intOf i).toNat)
                  case atStart => exact ⟨0, Nat.zero_le _, rfl, by simpa using HOw.out, HLw.out, FOw.out, HBw.out, HGw.out⟩
                  case round =>
                    obtain ⟨k, hk6, rfl, r1, r2, r3, r4, r5⟩ := hrel
                    have HR1 := Lib.hid r1
                    have HR2' := Lib.hid r2
                    have HR3 := Lib.hid r3
                    have HR4 := Lib.hid r4
                    have HR5 := Lib.hid r5
                    clear r1 r2 r3 r4
                    by_cases hlt6 : k < LO.length
                    · have hat6 := red_at LO (redR c fx) k hlt6
                      have HST6 := Lib.hid (red_step LO (redR c fx) k hlt6)
                      have HDN : Hid ((rw_ LO k).length = N) := Lib.hid (HP.out.olen _ (by rw [rw_mem hlt6]; exact List.getElem_mem hlt6))
                      have HL6 := Lib.hid hat6.2
                      have HD6 := Lib.hid hat6.1
                      obtain ⟨_, _, e3, _, _, hA3⟩ := HR1.out.form
                      injection e3 with e3 e3b e3c
                      clear e3b e3c
                      obtain ⟨go_, hgo, _⟩ := hA3 (by rw [hat6.2]; omega)
                      obtain rfl := e3.trans hgo
                      clear e3 hA3
                      obtain ⟨gk, ck, h1, hv1, h2, b1, b2, b3, b4, _⟩ := HR1.out.num (k := k) (by rw [hat6.2]; exact hlt6) (by rw [hat6.1]; exact HDN.out) hlt
                      have HOK := Lib.hid (HR1.out.own2 (k := k) (by rw [hat6.2]; exact hlt6) hv1)
                      rw [hat6.1] at h2 HOK
                      have HVK := Lib.hid hv1
                      have HKB : Hid (gk ∈ bl (.slice (some ⟨go_, 0, none⟩) LO.length co) hO) := Lib.hid (bl_hd (i := k) (by rw [HR1.out.len, hat6.2]; exact hlt6) (by rw [hv1]; rfl))
                      have hfN : fx.length = N := HFN2.out
                      have hcf := HR3.out.cellAt c (by omega)
                      rw [← cl_get (by omega)] at hcf
                      have hgo2 := (HR1.out.rg go_ (bl_own rfl)).2
                      unfold maxLen at b4
                      have hy := HFX.out
                      have HRED : Hid (redR c fx (rw_ LO k) = subR (rw_ LO k) (floorW (cl (rw_ LO k) c) (cl fx c)) fx) := Lib.hid rfl
                      clear hat6 hv1 hfN
                      generalize redR c fx (rw_ LO k) = DN at *
                      generalize rw_ LO k = d at *
                      generalize cl d c = x6 at *
                      generalize cl fx c = y6 at *
                      have HFLO : Hid (∀ W : World, Calls Try.prog 38 #[.int .i64 x6, .int .i64 y6] W fun e w' => e = .returned (.int .i64 (floorW x6 y6)) ∧ W = w') := Lib.hid fun W => floor_any x6 y6 W hy
                      generalize floorW x6 y6 = q6 at *
                      go_wp2_with fail
                      have fA := BelW.cell h2 b2
                      have fB := BelW.cell hcf HR5.out
                      (refine wp_region_quiet_callD 11 (some 183) (by kernel_rfl) (by rfl) (by rfl) (by kernel_rfl) (by kernel_rfl) ?_; dsimp only [dumL, lastL]; (repeat (go_big_quiet_step ((go_at_call 38; exact Calls.bel_same (HFLO.out _))))); refine wpQuiet_nil ?_; intro uv wv hw'; obtain ⟨pq, hw''⟩ := hw'; have bv := pq.h; rw [← hw''] at bv; clear hw'' pq; simp only [Act.put, List.setIfInBounds_toArray, List.set_cons_zero, List.set_cons_succ])
                      have HV := Lib.hid bv
                      clear bv fA fB h1 h2 hcf
                      go_wp2_with fail
                      refine (subtract_any _ _ d fx q6 0 wv (HOK.out.below HV.out) (HR3.out.rd.below HV.out) (fun b h h' => by simp [Value.ownBlock] at h h'; exact HG2.out (by rw [h, ← h']; exact HKB.out)) (by rw [HDN.out, HFN2.out]; exact Nat.le_refl _) (by rw [HDN.out]; omega)).mono ?_
                      rintro e w5 ⟨rfl, o5, g5⟩
                      rw [← HRED.out] at o5
                      have HS1 : Hid (HB w.heap.size w5 (.slice (some ⟨go_, 0, none⟩) LO.length co) hO ((LO.take (k + 1)).map (redR c fx) ++ LO.drop (k + 1))) := Lib.hid (by
                        have := (HR1.out.below HV.out).setC (i := k) (w' := w5) (r := DN) (by rw [HL6.out]; exact hlt6) (by rw [HVK.out]; exact g5) (by rw [HVK.out]; exact o5)
                        rw [HST6.out] at this
                        exact this)
                      have HS2 : Hid (HB w.heap.size w5 (.slice A9 rowsE.length c9) hLE rowsE) := Lib.hid ((HR2'.out.below HV.out).grown g5 fun b hb hm => HAP.out b hm (by simp [Value.ownBlock] at hb; rw [← hb]; exact HKB.out))
                      have HS3 : Hid (OwI w5 0 (.slice (some ⟨gf, 0, none⟩) N cf) fx) := Lib.hid ((HR3.out.below HV.out).kept g5 (.inr fun e => by simp [Value.ownBlock] at e; exact HG2.out (by rw [e]; exact HKB.out)))
                      have HS4 : Hid (Below w.heap.size w w5) := Lib.hid ((HR4.out.trans (HV.out.mono HR4.out.size)).grown g5 (by have := HR4.out.size; have := HV.out.size; omega) fun x hx => by simp [Value.ownBlock] at hx; omega)
                      have hs5 : gf < w5.heap.size := by have := HV.out.size; have := g5.size; have := HR5.out; omega
                      clear o5 g5
                      go_wp2
                      go_roundw
                      case rel => exact ⟨k + 1, by omega, by go_num, HS1.out, HS2.out, HS3.out, HS4.out, hs5⟩
                      case measure => simp [intOf]; omega
                    · obtain rfl : k = LO.length := by omega
                      have hfin : (LO.take LO.length).map (redR c fx) ++ LO.drop LO.length = LO.map (redR c fx) := by rw [List.take_length, List.drop_length, List.append_nil]
                      rw [hfin] at HR1
                      clear hfin
                      have HWA : Hid (Below wr.heap.size wr (wr.alloc (.cells #[.slice (some ⟨gf, 0, none⟩) N cf] 30))) := Lib.hid ((Below.refl _ _).alloc (Nat.le_refl _) _)
                      have HROW := Lib.hid (HR1.out.below HWA.out)
                      have hol : hO.length = LO.length := by rw [HR1.out.len, List.length_map]
                      have HOL := Lib.hid hol
                      have hol3 : hO.length ≤ 3 := by omega
                      have HVO : Hid (∃ A, Value.slice Ao LO.length co = A) := Lib.hid ⟨_, rfl⟩
                      clear hol
                      go_wp2_with (at_builtin; refine append_hdrs rfl (.tmp 185) (.tmp 187) rfl _ hO HROW.out.row (by rfl) ⟨wr.heap.size, 0, none⟩ 1 1 [.slice (some ⟨gf, 0, none⟩) N cf] rfl (cell_one_new _ _ _) (fun u hu => by simp at hu; subst hu; rfl) (by rfl) (by simp; omega) ?_; intro v8 w8 o8 g8 p8)
                      have hwsz : (wr.alloc (.cells #[.slice (some ⟨gf, 0, none⟩) N cf] 30)).heap.size = wr.heap.size + 1 := by simp
                      have hw4 := HR4.out.size
                      have HPU : Hid (HB w.heap.size w8 v8 (hO ++ [.slice (some ⟨gf, 0, none⟩) N cf]) (LO.map (redR c fx) ++ [fx])) := Lib.hid (HROW.out.pushH (f := .slice (some ⟨gf, 0, none⟩) N cf) (r := fx) (by simpa using o8) g8 p8 (by rw [hwsz]; omega) (HR3.out.below HWA.out) fun b hb => by
                        simp [Value.ownBlock] at hb
                        subst hb
                        exact ⟨HGF.out, by have := HR5.out; omega, HG2.out⟩)
                      have HLE8 : Hid (HB w.heap.size w8 (.slice A9 rowsE.length c9) hLE rowsE) := Lib.hid ((HR2'.out.below HWA.out).grown g8 fun b hb hm => HAP.out b hm (bl_own hb))
                      have HB8 : Hid (Below w.heap.size w w8) := Lib.hid ((HR4.out.trans (HWA.out.mono hw4)).grown g8 (by rw [hwsz]; omega) fun b hb => (HR1.out.rg b (bl_own hb)).1)
                      have HAP8 : Hid (∀ x ∈ bl (.slice A9 rowsE.length c9) hLE, x ∉ bl v8 (hO ++ [.slice (some ⟨gf, 0, none⟩) N cf])) := Lib.hid fun x hx hm => by
                        have hxs := (HR2'.out.rg x hx).2
                        rcases bl_push (v := .slice Ao LO.length co) hm with h | h | h
                        · rcases p8 with e | e
                          · rw [e] at h; exact HAP.out x hx (bl_own h)
                          · rw [e] at h; injection h with h; rw [hwsz] at h; omega
                        · exact HAP.out x hx h
                        · simp [Value.ownBlock] at h; exact HG1.out (by rw [h]; exact hx)
                      have HS9 : Hid (hermS L (c + 1) = (rowsE, LO.map (redR c fx) ++ [fx])) := HPF
                      clear o8 g8 p8 hwsz
                      go_wp2
                      go_roundw
                      case rel => exact ⟨c + 1, hLE, hO ++ [.slice (some ⟨gf, 0, none⟩) N cf], by omega, by go_num, by rw [HS9.out]; exact ⟨HLE8.out, HPU.out, HAP8.out⟩, HB8.out⟩
                      case measure => simp [intOf]; omega
          · go_wp2_with fail
            go_region_held3 (fun w' => True) (trivial)
              (first | (refine step_append_hdrs rfl (.tmp 141) (.tmp 145) rfl _ (hL.take j) (show wa.drew.ownsRow 0 30 1 (.slice (some ⟨gl, 0, none⟩) j cl_) _ _ from OC.out) (by rfl) _ _ _ (hL.drop (j + 1)) HNEW.out HFC2.out HDO.out (by rfl) HTK.out ?_; intro v9 w9 o9 g9 p9; have X9 := Lib.hid (HER.out v9 w9 o9 g9 p9); clear o9 g9 p9))
            obtain ⟨hbL, hof, hbO, hap, hg1, hg2, hg3, hbel9⟩ := X9.out
            obtain ⟨A9, c9, rfl, _, _, _⟩ := hbL.form
            have HL9 := Lib.hid hbL
            have HF9 := Lib.hid hof
            have HO9 := Lib.hid hbO
            have HAP := Lib.hid hap
            have HG1 := Lib.hid hg1
            have HG2 := Lib.hid hg2
            have HG3 := Lib.hid hg3
            have HB9 := Lib.hid hbel9
            have HGF : Hid (w.heap.size ≤ gf) := Lib.hid b1
            have hcx := hof.cellAt c (by rw [HRN.out]; exact hlt)
            rw [← cl_get (by rw [HRN.out]; exact hlt)] at hcx
            clear X9 hbL hof hbO hap hg1 hg2 hg3 hbel9 HER HNEW HDO HTK HFC2 OC HONE h1 h2 HHL HGL HVF HOF HW2 HB2 HL2 HR2 HD2 HFR HFN
            have HFN2 : Hid (fx.length = N) := Lib.hid (by rw [HFL.out]; split <;> simp [HRN.out])
            rcases ex : decide (cl fr c < 0) with _ | _
            · have hfx : fx = fr := by rw [HFL.out, if_neg (by simpa using ex)]
              have FOw : Hid (OwI w9 0 (.slice (some ⟨gf, 0, none⟩) N cf) fx) := Lib.hid (by rw [hfx]; exact HF9.out)
              clear hfx
              have HLw := HL9
              have HOw := HO9
              have HBw := HB9
              have HGw := HG3
              generalize cl fr c = x9 at *
              go_wp2
              go_loopw [168] (fun i wr => ∃ k : Nat, k ≤ LO.length ∧ i = .int .i64 k ∧ HB w.heap.size wr (.slice Ao LO.length co) hO ((LO.take k).map (redR c fx) ++ LO.drop k) ∧ HB w.heap.size wr (.slice A9 rowsE.length c9) hLE rowsE ∧ OwI wr 0 (.slice (some ⟨gf, 0, none⟩) N cf) fx ∧ Below w.heap.size w wr ∧ gf < wr.heap.size) (fun i _ => LO.length - (intOf i).toNat)
              case atStart => exact ⟨0, Nat.zero_le _, rfl, by simpa using HOw.out, HLw.out, FOw.out, HBw.out, HGw.out⟩
              case round =>
                obtain ⟨k, hk6, rfl, r1, r2, r3, r4, r5⟩ := hrel
                have HR1 := Lib.hid r1
                have HR2' := Lib.hid r2
                have HR3 := Lib.hid r3
                have HR4 := Lib.hid r4
                have HR5 := Lib.hid r5
                clear r1 r2 r3 r4
                by_cases hlt6 : k < LO.length
                · have hat6 := red_at LO (redR c fx) k hlt6
                  have HST6 := Lib.hid (red_step LO (redR c fx) k hlt6)
                  have HDN : Hid ((rw_ LO k).length = N) := Lib.hid (HP.out.olen _ (by rw [rw_mem hlt6]; exact List.getElem_mem hlt6))
                  have HL6 := Lib.hid hat6.2
                  have HD6 := Lib.hid hat6.1
                  obtain ⟨_, _, e3, _, _, hA3⟩ := HR1.out.form
                  injection e3 with e3 e3b e3c
                  clear e3b e3c
                  obtain ⟨go_, hgo, _⟩ := hA3 (by rw [hat6.2]; omega)
                  obtain rfl := e3.trans hgo
                  clear e3 hA3
                  obtain ⟨gk, ck, h1, hv1, h2, b1, b2, b3, b4, _⟩ := HR1.out.num (k := k) (by rw [hat6.2]; exact hlt6) (by rw [hat6.1]; exact HDN.out) hlt
                  have HOK := Lib.hid (HR1.out.own2 (k := k) (by rw [hat6.2]; exact hlt6) hv1)
                  rw [hat6.1] at h2 HOK
                  have HVK := Lib.hid hv1
                  have HKB : Hid (gk ∈ bl (.slice (some ⟨go_, 0, none⟩) LO.length co) hO) := Lib.hid (bl_hd (i := k) (by rw [HR1.out.len, hat6.2]; exact hlt6) (by rw [hv1]; rfl))
                  have hfN : fx.length = N := HFN2.out
                  have hcf := HR3.out.cellAt c (by omega)
                  rw [← cl_get (by omega)] at hcf
                  have hgo2 := (HR1.out.rg go_ (bl_own rfl)).2
                  unfold maxLen at b4
                  have hy := HFX.out
                  have HRED : Hid (redR c fx (rw_ LO k) = subR (rw_ LO k) (floorW (cl (rw_ LO k) c) (cl fx c)) fx) := Lib.hid rfl
                  clear hat6 hv1 hfN
                  generalize redR c fx (rw_ LO k) = DN at *
                  generalize rw_ LO k = d at *
                  generalize cl d c = x6 at *
                  generalize cl fx c = y6 at *
                  have HFLO : Hid (∀ W : World, Calls Try.prog 38 #[.int .i64 x6, .int .i64 y6] W fun e w' => e = .returned (.int .i64 (floorW x6 y6)) ∧ W = w') := Lib.hid fun W => floor_any x6 y6 W hy
                  generalize floorW x6 y6 = q6 at *
                  go_wp2_with fail
                  have fA := BelW.cell h2 b2
                  have fB := BelW.cell hcf HR5.out
                  (refine wp_region_quiet_callD 11 (some 183) (by kernel_rfl) (by rfl) (by rfl) (by kernel_rfl) (by kernel_rfl) ?_; dsimp only [dumL, lastL]; (repeat (go_big_quiet_step ((go_at_call 38; exact Calls.bel_same (HFLO.out _))))); refine wpQuiet_nil ?_; intro uv wv hw'; obtain ⟨pq, hw''⟩ := hw'; have bv := pq.h; rw [← hw''] at bv; clear hw'' pq; simp only [Act.put, List.setIfInBounds_toArray, List.set_cons_zero, List.set_cons_succ])
                  have HV := Lib.hid bv
                  clear bv fA fB h1 h2 hcf
                  go_wp2_with fail
                  refine (subtract_any _ _ d fx q6 0 wv (HOK.out.below HV.out) (HR3.out.rd.below HV.out) (fun b h h' => by simp [Value.ownBlock] at h h'; exact HG2.out (by rw [h, ← h']; exact HKB.out)) (by rw [HDN.out, HFN2.out]; exact Nat.le_refl _) (by rw [HDN.out]; omega)).mono ?_
                  rintro e w5 ⟨rfl, o5, g5⟩
                  rw [← HRED.out] at o5
                  have HS1 : Hid (HB w.heap.size w5 (.slice (some ⟨go_, 0, none⟩) LO.length co) hO ((LO.take (k + 1)).map (redR c fx) ++ LO.drop (k + 1))) := Lib.hid (by
                    have := (HR1.out.below HV.out).setC (i := k) (w' := w5) (r := DN) (by rw [HL6.out]; exact hlt6) (by rw [HVK.out]; exact g5) (by rw [HVK.out]; exact o5)
                    rw [HST6.out] at this
                    exact this)
                  have HS2 : Hid (HB w.heap.size w5 (.slice A9 rowsE.length c9) hLE rowsE) := Lib.hid ((HR2'.out.below HV.out).grown g5 fun b hb hm => HAP.out b hm (by simp [Value.ownBlock] at hb; rw [← hb]; exact HKB.out))
                  have HS3 : Hid (OwI w5 0 (.slice (some ⟨gf, 0, none⟩) N cf) fx) := Lib.hid ((HR3.out.below HV.out).kept g5 (.inr fun e => by simp [Value.ownBlock] at e; exact HG2.out (by rw [e]; exact HKB.out)))
                  have HS4 : Hid (Below w.heap.size w w5) := Lib.hid ((HR4.out.trans (HV.out.mono HR4.out.size)).grown g5 (by have := HR4.out.size; have := HV.out.size; omega) fun x hx => by simp [Value.ownBlock] at hx; omega)
                  have hs5 : gf < w5.heap.size := by have := HV.out.size; have := g5.size; have := HR5.out; omega
                  clear o5 g5
                  go_wp2
                  go_roundw
                  case rel => exact ⟨k + 1, by omega, by go_num, HS1.out, HS2.out, HS3.out, HS4.out, hs5⟩
                  case measure => simp [intOf]; omega
                · obtain rfl : k = LO.length := by omega
                  have hfin : (LO.take LO.length).map (redR c fx) ++ LO.drop LO.length = LO.map (redR c fx) := by rw [List.take_length, List.drop_length, List.append_nil]
                  rw [hfin] at HR1
                  clear hfin
                  have HWA : Hid (Below wr.heap.size wr (wr.alloc (.cells #[.slice (some ⟨gf, 0, none⟩) N cf] 30))) := Lib.hid ((Below.refl _ _).alloc (Nat.le_refl _) _)
                  have HROW := Lib.hid (HR1.out.below HWA.out)
                  have hol : hO.length = LO.length := by rw [HR1.out.len, List.length_map]
                  have HOL := Lib.hid hol
                  have hol3 : hO.length ≤ 3 := by omega
                  have HVO : Hid (∃ A, Value.slice Ao LO.length co = A) := Lib.hid ⟨_, rfl⟩
                  clear hol
                  go_wp2_with (at_builtin; refine append_hdrs rfl (.tmp 185) (.tmp 187) rfl _ hO HROW.out.row (by rfl) ⟨wr.heap.size, 0, none⟩ 1 1 [.slice (some ⟨gf, 0, none⟩) N cf] rfl (cell_one_new _ _ _) (fun u hu => by simp at hu; subst hu; rfl) (by rfl) (by simp; omega) ?_; intro v8 w8 o8 g8 p8)
                  have hwsz : (wr.alloc (.cells #[.slice (some ⟨gf, 0, none⟩) N cf] 30)).heap.size = wr.heap.size + 1 := by simp
                  have hw4 := HR4.out.size
                  have HPU : Hid (HB w.heap.size w8 v8 (hO ++ [.slice (some ⟨gf, 0, none⟩) N cf]) (LO.map (redR c fx) ++ [fx])) := Lib.hid (HROW.out.pushH (f := .slice (some ⟨gf, 0, none⟩) N cf) (r := fx) (by simpa using o8) g8 p8 (by rw [hwsz]; omega) (HR3.out.below HWA.out) fun b hb => by
                    simp [Value.ownBlock] at hb
                    subst hb
                    exact ⟨HGF.out, by have := HR5.out; omega, HG2.out⟩)
                  have HLE8 : Hid (HB w.heap.size w8 (.slice A9 rowsE.length c9) hLE rowsE) := Lib.hid ((HR2'.out.below HWA.out).grown g8 fun b hb hm => HAP.out b hm (bl_own hb))
                  have HB8 : Hid (Below w.heap.size w w8) := Lib.hid ((HR4.out.trans (HWA.out.mono hw4)).grown g8 (by rw [hwsz]; omega) fun b hb => (HR1.out.rg b (bl_own hb)).1)
                  have HAP8 : Hid (∀ x ∈ bl (.slice A9 rowsE.length c9) hLE, x ∉ bl v8 (hO ++ [.slice (some ⟨gf, 0, none⟩) N cf])) := Lib.hid fun x hx hm => by
                    have hxs := (HR2'.out.rg x hx).2
                    rcases bl_push (v := .slice Ao LO.length co) hm with h | h | h
                    · rcases p8 with e | e
                      · rw [e] at h; exact HAP.out x hx (bl_own h)
                      · rw [e] at h; injection h with h; rw [hwsz] at h; omega
                    · exact HAP.out x hx h
                    · simp [Value.ownBlock] at h; exact HG1.out (by rw [h]; exact hx)
                  have HS9 : Hid (hermS L (c + 1) = (rowsE, LO.map (redR c fx) ++ [fx])) := HPF
                  clear o8 g8 p8 hwsz
                  go_wp2
                  go_roundw
                  case rel => exact ⟨c + 1, hLE, hO ++ [.slice (some ⟨gf, 0, none⟩) N cf], by omega, by go_num, by rw [HS9.out]; exact ⟨HLE8.out, HPU.out, HAP8.out⟩, HB8.out⟩
                  case measure => simp [intOf]; omega
            · have hfx : fx = fr.map negW := by rw [HFL.out, if_pos (by simpa using ex)]
              have HFM := Lib.hid hfx
              clear hfx
              generalize cl fr c = x9 at *
              go_wp2
              go_loopw [154] (fun i wr => ∃ k : Nat, k ≤ N ∧ i = .int .i64 k ∧ OwI wr 0 (.slice (some ⟨gf, 0, none⟩) N cf) ((fr.take k).map negW ++ fr.drop k) ∧ w9.grownBy wr (some gf)) (fun i _ => N - (intOf i).toNat)
              case atStart => exact ⟨0, Nat.zero_le _, rfl, by simpa using HF9.out, World.grownBy.refl _ _⟩
              case round =>
                obtain ⟨k, hk5, rfl, o5, g5⟩ := hrel
                have HO5 := Lib.hid o5
                have HG5 := Lib.hid g5
                clear o5 g5
                by_cases hlt5 : k < N
                · have hkf : k < fr.length := by rw [HRN.out]; exact hlt5
                  have hTl : k < ((fr.take k).map negW ++ fr.drop k).length := by simp; omega
                  have hc0 := HO5.out.cellAt k hTl
                  rw [neg_at fr k hkf hTl] at hc0
                  have hf0 := HO5.out.free k
                  have HS5 := Lib.hid (neg_step fr k hkf)
                  have HST5 : Hid (∀ z, I64 z → OwI (wr.setCell ⟨gf, k, none⟩ (.int .i64 z)) 0 (.slice (some ⟨gf, 0, none⟩) N cf) (((fr.take k).map negW ++ fr.drop k).set k z) ∧ wr.grownBy (wr.setCell ⟨gf, k, none⟩ (.int .i64 z)) (some gf)) := Lib.hid fun z hz => HO5.out.set k z hz
                  clear hTl
                  have HNG : Hid (negW fr[k] = wrap64 (-fr[k])) := Lib.hid rfl
                  generalize fr[k] = z5 at *
                  go_wp2
                  go_roundw
                  case rel =>
                    refine ⟨k + 1, by omega, by go_num, ?_, ?_⟩
                    · rw [← HS5.out, HNG.out]
                      exact (HST5.out _ (I64_wrap0 _)).1
                    · exact HG5.out.trans (HST5.out _ (I64_wrap0 _)).2
                  case measure => simp [intOf]; omega
                · obtain rfl : N = k := by omega
                  have hfull : (fr.take N).map negW ++ fr.drop N = fx := by
                    rw [HFM.out, ← HRN.out, List.take_length, List.drop_length, List.append_nil]
                  rw [hfull] at HO5
                  clear hfull
                  have FOw := HO5
                  have HLw : Hid (HB w.heap.size wr (.slice A9 rowsE.length c9) hLE rowsE) := Lib.hid (HL9.out.grown HG5.out fun b hb hm => by injection hb with hb; exact HG1.out (by rw [hb]; exact hm))
                  have HOw : Hid (HB w.heap.size wr (.slice Ao LO.length co) hO LO) := Lib.hid (HO9.out.grown HG5.out fun b hb hm => by injection hb with hb; exact HG2.out (by rw [hb]; exact hm))
                  have HBw : Hid (Below w.heap.size w wr) := Lib.hid (HB9.out.grown HG5.out HB9.out.size fun b hb => by injection hb with hb; have := HGF.out; omega)
                  have HGw : Hid (gf < wr.heap.size) := Lib.hid (by have := HG3.out; have := HG5.out.size; omega)
                  clear HG5
                  go_wp2
                  go_loopw [168] (fun i wr => ∃ k : Nat, k ≤ LO.length ∧ i = .int .i64 k ∧ HB w.heap.size wr (.slice Ao LO.length co) hO ((LO.take k).map (redR c fx) ++ LO.drop k) ∧ HB w.heap.size wr (.slice A9 rowsE.length c9) hLE rowsE ∧ OwI wr 0 (.slice (some ⟨gf, 0, none⟩) N cf) fx ∧ Below w.heap.size w wr ∧ gf < wr.heap.size) (fun i _ => LO.length - (intOf i).toNat)
                  case atStart => exact ⟨0, Nat.zero_le _, rfl, by simpa using HOw.out, HLw.out, FOw.out, HBw.out, HGw.out⟩
                  case round =>
                    obtain ⟨k, hk6, rfl, r1, r2, r3, r4, r5⟩ := hrel
                    have HR1 := Lib.hid r1
                    have HR2' := Lib.hid r2
                    have HR3 := Lib.hid r3
                    have HR4 := Lib.hid r4
                    have HR5 := Lib.hid r5
                    clear r1 r2 r3 r4
                    by_cases hlt6 : k < LO.length
                    · have hat6 := red_at LO (redR c fx) k hlt6
                      have HST6 := Lib.hid (red_step LO (redR c fx) k hlt6)
                      have HDN : Hid ((rw_ LO k).length = N) := Lib.hid (HP.out.olen _ (by rw [rw_mem hlt6]; exact List.getElem_mem hlt6))
                      have HL6 := Lib.hid hat6.2
                      have HD6 := Lib.hid hat6.1
                      obtain ⟨_, _, e3, _, _, hA3⟩ := HR1.out.form
                      injection e3 with e3 e3b e3c
                      clear e3b e3c
                      obtain ⟨go_, hgo, _⟩ := hA3 (by rw [hat6.2]; omega)
                      obtain rfl := e3.trans hgo
                      clear e3 hA3
                      obtain ⟨gk, ck, h1, hv1, h2, b1, b2, b3, b4, _⟩ := HR1.out.num (k := k) (by rw [hat6.2]; exact hlt6) (by rw [hat6.1]; exact HDN.out) hlt
                      have HOK := Lib.hid (HR1.out.own2 (k := k) (by rw [hat6.2]; exact hlt6) hv1)
                      rw [hat6.1] at h2 HOK
                      have HVK := Lib.hid hv1
                      have HKB : Hid (gk ∈ bl (.slice (some ⟨go_, 0, none⟩) LO.length co) hO) := Lib.hid (bl_hd (i := k) (by rw [HR1.out.len, hat6.2]; exact hlt6) (by rw [hv1]; rfl))
                      have hfN : fx.length = N := HFN2.out
                      have hcf := HR3.out.cellAt c (by omega)
                      rw [← cl_get (by omega)] at hcf
                      have hgo2 := (HR1.out.rg go_ (bl_own rfl)).2
                      unfold maxLen at b4
                      have hy := HFX.out
                      have HRED : Hid (redR c fx (rw_ LO k) = subR (rw_ LO k) (floorW (cl (rw_ LO k) c) (cl fx c)) fx) := Lib.hid rfl
                      clear hat6 hv1 hfN
                      generalize redR c fx (rw_ LO k) = DN at *
                      generalize rw_ LO k = d at *
                      generalize cl d c = x6 at *
                      generalize cl fx c = y6 at *
                      have HFLO : Hid (∀ W : World, Calls Try.prog 38 #[.int .i64 x6, .int .i64 y6] W fun e w' => e = .returned (.int .i64 (floorW x6 y6)) ∧ W = w') := Lib.hid fun W => floor_any x6 y6 W hy
                      generalize floorW x6 y6 = q6 at *
                      go_wp2_with fail
                      have fA := BelW.cell h2 b2
                      have fB := BelW.cell hcf HR5.out
                      (refine wp_region_quiet_callD 11 (some 183) (by kernel_rfl) (by rfl) (by rfl) (by kernel_rfl) (by kernel_rfl) ?_; dsimp only [dumL, lastL]; (repeat (go_big_quiet_step ((go_at_call 38; exact Calls.bel_same (HFLO.out _))))); refine wpQuiet_nil ?_; intro uv wv hw'; obtain ⟨pq, hw''⟩ := hw'; have bv := pq.h; rw [← hw''] at bv; clear hw'' pq; simp only [Act.put, List.setIfInBounds_toArray, List.set_cons_zero, List.set_cons_succ])
                      have HV := Lib.hid bv
                      clear bv fA fB h1 h2 hcf
                      go_wp2_with fail
                      refine (subtract_any _ _ d fx q6 0 wv (HOK.out.below HV.out) (HR3.out.rd.below HV.out) (fun b h h' => by simp [Value.ownBlock] at h h'; exact HG2.out (by rw [h, ← h']; exact HKB.out)) (by rw [HDN.out, HFN2.out]; exact Nat.le_refl _) (by rw [HDN.out]; omega)).mono ?_
                      rintro e w5 ⟨rfl, o5, g5⟩
                      rw [← HRED.out] at o5
                      have HS1 : Hid (HB w.heap.size w5 (.slice (some ⟨go_, 0, none⟩) LO.length co) hO ((LO.take (k + 1)).map (redR c fx) ++ LO.drop (k + 1))) := Lib.hid (by
                        have := (HR1.out.below HV.out).setC (i := k) (w' := w5) (r := DN) (by rw [HL6.out]; exact hlt6) (by rw [HVK.out]; exact g5) (by rw [HVK.out]; exact o5)
                        rw [HST6.out] at this
                        exact this)
                      have HS2 : Hid (HB w.heap.size w5 (.slice A9 rowsE.length c9) hLE rowsE) := Lib.hid ((HR2'.out.below HV.out).grown g5 fun b hb hm => HAP.out b hm (by simp [Value.ownBlock] at hb; rw [← hb]; exact HKB.out))
                      have HS3 : Hid (OwI w5 0 (.slice (some ⟨gf, 0, none⟩) N cf) fx) := Lib.hid ((HR3.out.below HV.out).kept g5 (.inr fun e => by simp [Value.ownBlock] at e; exact HG2.out (by rw [e]; exact HKB.out)))
                      have HS4 : Hid (Below w.heap.size w w5) := Lib.hid ((HR4.out.trans (HV.out.mono HR4.out.size)).grown g5 (by have := HR4.out.size; have := HV.out.size; omega) fun x hx => by simp [Value.ownBlock] at hx; omega)
                      have hs5 : gf < w5.heap.size := by have := HV.out.size; have := g5.size; have := HR5.out; omega
                      clear o5 g5
                      go_wp2
                      go_roundw
                      case rel => exact ⟨k + 1, by omega, by go_num, HS1.out, HS2.out, HS3.out, HS4.out, hs5⟩
                      case measure => simp [intOf]; omega
                    · obtain rfl : k = LO.length := by omega
                      have hfin : (LO.take LO.length).map (redR c fx) ++ LO.drop LO.length = LO.map (redR c fx) := by rw [List.take_length, List.drop_length, List.append_nil]
                      rw [hfin] at HR1
                      clear hfin
                      have HWA : Hid (Below wr.heap.size wr (wr.alloc (.cells #[.slice (some ⟨gf, 0, none⟩) N cf] 30))) := Lib.hid ((Below.refl _ _).alloc (Nat.le_refl _) _)
                      have HROW := Lib.hid (HR1.out.below HWA.out)
                      have hol : hO.length = LO.length := by rw [HR1.out.len, List.length_map]
                      have HOL := Lib.hid hol
                      have hol3 : hO.length ≤ 3 := by omega
                      have HVO : Hid (∃ A, Value.slice Ao LO.length co = A) := Lib.hid ⟨_, rfl⟩
                      clear hol
                      go_wp2_with (at_builtin; refine append_hdrs rfl (.tmp 185) (.tmp 187) rfl _ hO HROW.out.row (by rfl) ⟨wr.heap.size, 0, none⟩ 1 1 [.slice (some ⟨gf, 0, none⟩) N cf] rfl (cell_one_new _ _ _) (fun u hu => by simp at hu; subst hu; rfl) (by rfl) (by simp; omega) ?_; intro v8 w8 o8 g8 p8)
                      have hwsz : (wr.alloc (.cells #[.slice (some ⟨gf, 0, none⟩) N cf] 30)).heap.size = wr.heap.size + 1 := by simp
                      have hw4 := HR4.out.size
                      have HPU : Hid (HB w.heap.size w8 v8 (hO ++ [.slice (some ⟨gf, 0, none⟩) N cf]) (LO.map (redR c fx) ++ [fx])) := Lib.hid (HROW.out.pushH (f := .slice (some ⟨gf, 0, none⟩) N cf) (r := fx) (by simpa using o8) g8 p8 (by rw [hwsz]; omega) (HR3.out.below HWA.out) fun b hb => by
                        simp [Value.ownBlock] at hb
                        subst hb
                        exact ⟨HGF.out, by have := HR5.out; omega, HG2.out⟩)
                      have HLE8 : Hid (HB w.heap.size w8 (.slice A9 rowsE.length c9) hLE rowsE) := Lib.hid ((HR2'.out.below HWA.out).grown g8 fun b hb hm => HAP.out b hm (bl_own hb))
                      have HB8 : Hid (Below w.heap.size w w8) := Lib.hid ((HR4.out.trans (HWA.out.mono hw4)).grown g8 (by rw [hwsz]; omega) fun b hb => (HR1.out.rg b (bl_own hb)).1)
                      have HAP8 : Hid (∀ x ∈ bl (.slice A9 rowsE.length c9) hLE, x ∉ bl v8 (hO ++ [.slice (some ⟨gf, 0, none⟩) N cf])) := Lib.hid fun x hx hm => by
                        have hxs := (HR2'.out.rg x hx).2
                        rcases bl_push (v := .slice Ao LO.length co) hm with h | h | h
                        · rcases p8 with e | e
                          · rw [e] at h; exact HAP.out x hx (bl_own h)
                          · rw [e] at h; injection h with h; rw [hwsz] at h; omega
                        · exact HAP.out x hx h
                        · simp [Value.ownBlock] at h; exact HG1.out (by rw [h]; exact hx)
                      have HS9 : Hid (hermS L (c + 1) = (rowsE, LO.map (redR c fx) ++ [fx])) := HPF
                      clear o8 g8 p8 hwsz
                      go_wp2
                      go_roundw
                      case rel => exact ⟨c + 1, hLE, hO ++ [.slice (some ⟨gf, 0, none⟩) N cf], by omega, by go_num, by rw [HS9.out]; exact ⟨HLE8.out, HPU.out, HAP8.out⟩, HB8.out⟩
                      case measure => simp [intOf]; omega
    · obtain rfl : c = N := by omega
      have FO := Lib.hid HW.out.b.owII
      clear HW
      go_wp2
      go_ret2
      exact ⟨_, rfl, FO.out, HBW.out⟩
end Go.Proofs.Ytjmjhhdjlompfaa
