/- The reference's HermiteForm. -/
import Derived.Test.YtnnckojpmnpgbaaHerK0
namespace Go.Proofs.Ytnnckojpmnpgbaa
set_option maxRecDepth 20000
set_option linter.unusedVariables false
set_option linter.unusedSimpArgs false
open Go.RowKit

theorem hermF_no {n : Int} {L : List (List Int)} (h : (hermF n L).2 = false) : (hermF n L).1 = [] := by
  unfold hermF at h ⊢
  split
  · rfl
  · rename_i h1
    rw [if_neg h1] at h
    split
    · rename_i h2; rw [if_pos h2] at h; cases h
    · rename_i h2
      rw [if_neg h2] at h
      split
      · rfl
      · rename_i h3; rw [if_neg h3] at h; cases h
theorem sub_neg {n : Nat} {r : List Int} (hn : r.length = n) (h : ∀ t, I64 (cl r t)) : subR (List.replicate n 0) 1 r = r.map negW := by
  subst hn
  refine List.ext_getElem (by simp [subR_len]) fun i h1 h2 => ?_
  have hi : i < r.length := by simpa using h2
  have e1 := subR_cl (List.replicate r.length 0) 1 r i (by simpa using hi)
  rw [cl_get h1] at e1
  rw [e1, List.getElem_map, ← cl_get hi]
  have e2 : cl (List.replicate r.length 0) i = 0 := by rw [cl_get (by simpa using hi)]; simp
  rw [e2]
  unfold wS negW
  rw [Int.one_mul, IntWalk.wrap64_in (cl r i) (h i), Int.zero_sub]
set_option maxRecDepth 100000 in
set_option maxHeartbeats 8000000 in
theorem specHermiteForm_any (v : Value) (L : List (List Int)) (n : Int) (w : World) (h : RdII w v L) (hl : L.length ≤ 1073741824) (hr : ∀ r ∈ L, r.length ≤ 1073741824) :
    Calls Try.prog 15 #[v, .int .i64 n] w fun e w' => ∃ s, e = .returned s ∧ OwII w.heap.size w'.heap.size s (hermF n L).1 w' ∧ Below w.heap.size w w' := by
  have H := Lib.hid h
  have HR := Lib.hid hr
  obtain ⟨A, cap, rfl, hcap, hm, _⟩ := h.form
  unfold maxLen at hm
  clear h hr
  have HNO : Hid (rows27 n L = false → (hermF n L).1 = []) := Lib.hid fun e => hermF_no (by rw [← rows27_eq]; exact e)
  have HYES : Hid (rows27 n L = true → (hermF n L).1 = if (isHerm L && numOk 1000000000 L) = true then L else (hermS L n.toNat).2) := Lib.hid fun e => hermF_form e
  have HPT : Hid (rows27 n L = true → inB n 1 3 = true ∧ L.length ≤ 100 ∧ lenOk n L = true ∧ ((isHerm L && numOk 1000000000 L) = false → numOk 100 L = true)) := Lib.hid fun e => by
    unfold rows27 at e
    simp only [Bool.and_eq_true] at e
    refine ⟨e.1.1.1, by simpa using e.1.1.2, e.1.2, fun e' => ?_⟩
    have := e.2
    rw [e', Bool.or_false] at this
    exact this
  generalize (hermF n L).1 = R at *
  have O0 : Hid (HB w.heap.size (w.alloc (.cells #[] 27)) (.slice (some ⟨w.heap.size, 0, none⟩) 0 0) [] []) := Lib.hid (by
    obtain ⟨hs, hh⟩ := (OwII_lit (lo := w.heap.size) w (Nat.le_refl _)).hb (by simp)
    obtain rfl : hs = [] := List.eq_nil_of_length_eq_zero hh.len
    exact hh)
  have B0 : Hid (Below w.heap.size w (w.alloc (.cells #[] 27))) := Lib.hid ((Below.refl _ _).alloc (Nat.le_refl _) _)
  have H0 := Lib.hid (H.out.below B0.out)
  go_enter Try.func15, Try.ntmps15
  go_wp2_with fail
  have hs0 : w.heap.size < (w.alloc (.cells #[] 27)).heap.size := by simp
  generalize w.alloc (.cells #[] 27) = w0 at *
  refine (l27Rows_any _ L n w0 H0.out hl).mono ?_
  rintro e w' ⟨rfl, m1, rfl⟩
  rcases e1 : rows27 n L with _ | _
  · obtain rfl := HNO.out e1
    have O1 := Lib.hid O0.out.owII
    clear e1
    go_wp2
    go_ret
    exact ⟨_, rfl, O1.out, bel_drewN B0.out m1⟩
  obtain ⟨hn, hL100, hlo, hnum⟩ := HPT.out e1
  have hR := HYES.out e1
  have HRV := Lib.hid hR
  have HNUM := Lib.hid hnum
  have hn13 := inB_iff.1 hn
  have HLO := Lib.hid hlo
  have HNN := Lib.hid hn
  clear e1 hR hnum hlo hn HNO HYES HPT
  obtain ⟨wd, hwd⟩ : ∃ W, W = w0.drewN m1 := ⟨_, rfl⟩
  have HD : Hid (RdII wd (.slice A L.length cap) L) := Lib.hid (by rw [hwd]; exact H0.out.drewN m1)
  have HBD : Hid (Below w.heap.size w wd) := Lib.hid (by rw [hwd]; exact bel_drewN B0.out m1)
  have HOD : Hid (HB w.heap.size wd (.slice (some ⟨w.heap.size, 0, none⟩) 0 0) [] []) := Lib.hid (by rw [hwd]; exact O0.out.below (bel_drewN (Below.refl _ _) m1))
  have hsd : w.heap.size < wd.heap.size := by rw [hwd]; exact hs0
  rw [← hwd]
  clear hwd O0 B0 H0 hs0
  go_wp2_with fail
  refine (l20Copy_any _ L wd HD.out hl HR.out).mono ?_
  rintro e w1 ⟨s1, rfl, o1, b1⟩
  obtain ⟨hs1, hb1⟩ := o1.hb (Nat.le_refl _)
  have HW1 := Lib.hid hb1
  have HO1 := Lib.hid (HOD.out.below b1)
  have HB1 := Lib.hid (HBD.out.trans (b1.mono (by omega)))
  have HD1 := Lib.hid (HD.out.below b1)
  have hsz1 := b1.size
  have HOW := Lib.hid o1
  clear o1 b1 hb1
  go_wp2_with fail
  refine (l27Done_any _ L n.toNat w1 HD1.out hl (fun r hr => by have := len_mem HLO.out hr; omega) (by omega)).mono ?_
  rintro e w' ⟨rfl, m2, rfl⟩
  rcases e2 : (isHerm L && numOk 1000000000 L) with _ | _
  rotate_left
  · have F : Hid (R = L) := Lib.hid (by rw [HRV.out, if_pos e2])
    clear e2
    go_wp2
    go_ret
    exact ⟨_, rfl, by rw [F.out]; exact (HOW.out.widen (by omega) (Nat.le_refl _)), bel_drewN HB1.out m2⟩
  have F : Hid (R = (hermS L n.toNat).2) := Lib.hid (by rw [HRV.out, if_neg (by rw [e2]; decide)])
  have HPH : Hid (∀ k, k ≤ n.toNat → PhI n.toNat k (hermS L k)) := Lib.hid (elim_inv HNN.out HLO.out (HNUM.out e2))
  clear e2 HRV HNUM
  obtain ⟨N, rfl⟩ : ∃ N : Nat, n = (N : Int) := ⟨n.toNat, by omega⟩
  have hN3 : 1 ≤ N ∧ N ≤ 3 := by omega
  rw [Int.toNat_natCast] at HPH F
  obtain ⟨w2, hw2⟩ : ∃ W, W = w1.drewN m2 := ⟨_, rfl⟩
  obtain ⟨A1, c1, rfl, _⟩ := HW1.out.form
  have HH0 : Hid (HH w.heap.size w2 (.slice A1 L.length c1) hs1 L (.slice (some ⟨w.heap.size, 0, none⟩) 0 0) [] []) := Lib.hid (by
    rw [hw2]
    refine HH.drewN ⟨HW1.out.lo_le (by omega), HO1.out, fun x hx hm => ?_⟩ m2
    have h1 := (HW1.out.rg x hx).1
    rcases bl_mem hm with h | ⟨i, hi, _⟩
    · simp [Value.ownBlock] at h; omega
    · cases hi)
  have BZ : Hid (Below w.heap.size w w2) := Lib.hid (by rw [hw2]; exact bel_drewN HB1.out m2)
  rw [← hw2]
  clear hw2 HOW HO1 HW1 HB1 HD1 HD HBD HOD
  go_wp2
  go_loopw [5, 6, 7] (fun done work i wr => ∃ (k : Nat) (hW hO : List Value), k ≤ N ∧ i = .int .i64 k ∧ HH w.heap.size wr work hW (hermS L k).1 done hO (hermS L k).2 ∧ Below w.heap.size w wr) (fun _ _ i _ => N - (intOf i).toNat)
  case atStart => exact ⟨0, hs1, [], Nat.zero_le _, rfl, HH0.out, BZ.out⟩
  case round =>
    obtain ⟨c, hW0, hO, hk, rfl, hhh, hbel⟩ := hrel
    obtain ⟨wo, rfl⟩ : ∃ wo : World, wo = wr := ⟨_, rfl⟩
    have HW := Lib.hid hhh
    have HBW := Lib.hid hbel
    have hwo := hbel.size
    obtain ⟨Al, cl_, rfl, _⟩ := hhh.a.form
    obtain ⟨Ao, co, rfl, _⟩ := hhh.b.form
    have HP := Lib.hid (HPH.out c hk)
    clear hhh hbel
    by_cases hlt : c < N
    · have HSU := Lib.hid (hermS_succ L c)
      have hLL := hermS_len L c
      generalize hermS L c = st at *
      obtain ⟨LS, LO⟩ := st
      simp only at HW HP hLL
      obtain ⟨hLS, hLO⟩ := hLL
      have HRC := Lib.hid HP.out.rect
      have HBC : Hid (∀ i, mg LS c i ≤ 4000000000000000000) := Lib.hid fun i => by
        have h1 : mg LS c i ≤ bA c := HP.out.bd c (Nat.le_refl _) hlt i
        have h2 := (bA_le c).2
        omega
      have HEND := Lib.hid (end200 hlt HP.out.rect (HP.out.bd c (Nat.le_refl _) hlt))
      obtain ⟨RES, hRES⟩ : ∃ RES, RES = colI c 200 LS := ⟨_, rfl⟩
      have HRES := Lib.hid hRES
      clear hRES
      obtain ⟨nl, hnl⟩ : ∃ nl, nl = LS.length := ⟨_, rfl⟩
      rw [← hnl] at HW hLS ⊢
      have HNL := Lib.hid hnl
      clear hnl
      go_wp2
      go_loopw [8, 9] (fun best st wr => ∃ (rows : List (List Int)) (hW : List Value) (s : Nat), st = .int .i64 s ∧ HH w.heap.size wr (.slice Al nl cl_) hW rows (.slice Ao LO.length co) hO LO ∧ Below w.heap.size w wr ∧ Hid (rows.length = nl) ∧ Rect N rows ∧ (∀ i, mg rows c i ≤ 4000000000000000000) ∧
          ((∃ f, endI c f rows = true ∧ colI c f rows = RES ∧ f + s ≤ 200) ∨ (s ≤ 201 ∧ ∃ j : Nat, pickF rows c rows.length = (j : Int) ∧ (∀ i, i ≠ j → mg rows c i = 0) ∧ ((j : Int), rows) = RES))) (fun _ st _ => 10000 - (intOf st).toNat)
      case atStart => exact ⟨LS, hW0, 0, rfl, HW.out, HBW.out, Lib.hid HNL.out.symm, HRC.out, HBC.out, .inl ⟨200, HEND.out, HRES.out.symm, by omega⟩⟩
      case round =>
        obtain ⟨rows, hW, s, rfl, hh2, hbel2, HL2, hrc2, hbd2, hcase⟩ := hrel
        have HW2 := Lib.hid hh2
        have HB2 := Lib.hid hbel2
        have HR2 := Lib.hid hrc2
        have HD2 := Lib.hid hbd2
        have HCS := Lib.hid hcase
        have hs10 : (s : Int) < 10000 := by
          rcases hcase with ⟨f, _, _, h⟩ | ⟨h, _⟩ <;> omega
        obtain ⟨wa, rfl⟩ : ∃ wa : World, wa = wr := ⟨_, rfl⟩
        clear hh2 hbel2 hrc2 hbd2 hcase
        go_wp2
        go_loopw [8, 10] (fun at_ i wr => ∃ k : Nat, k ≤ nl ∧ i = .int .i64 k ∧ at_ = .int .i64 (pickF rows c k) ∧ ∃ m, wr = wa.drewN m) (fun _ i _ => nl - (intOf i).toNat)
        case atStart => exact ⟨0, Nat.zero_le _, rfl, rfl, 0, rfl⟩
        case round =>
          obtain ⟨k, hk3, rfl, rfl, m3, hm3⟩ := hrel
          have HW3 : Hid (HH w.heap.size wr (.slice Al nl cl_) hW rows (.slice Ao LO.length co) hO LO) := Lib.hid (by rw [hm3]; exact HW2.out.drewN m3)
          have HM3 : Hid (∀ q, ∃ m, wr.drewN q = wa.drewN m) := Lib.hid fun q => ⟨_, by rw [hm3, World.drewN_drewN]⟩
          have HWM : Hid (wr = wa.drewN m3) := Lib.hid hm3
          clear hm3
          by_cases hlt3 : k < nl
          · obtain ⟨_, _, e3, _, _, hA3⟩ := HW3.out.a.form
            injection e3 with e3 e3b e3c
            clear e3b e3c
            obtain ⟨gl, hgl, _⟩ := hA3 (by have := HL2.out; omega)
            obtain rfl := e3.trans hgl
            clear e3 hA3
            obtain ⟨gk, ck, h1, hv1, h2, b1, b2, b3, b4, hI⟩ := HW3.out.a.num (by have := HL2.out; omega) (HR2.out k (by have := HL2.out; omega)) hlt
            have hPS := Lib.hid (pickF_succ rows c k)
            have hPR := pickF_range rows c k
            have HSET : Hid (pickF rows c (k + 1) = if cl (rw_ rows k) c ≠ 0 ∧ (pickF rows c k < 0 ∨ abs64 (cl (rw_ rows k) c) < abs64 (cl (rw_ rows (pickF rows c k).toNat) c)) then (k : Int) else pickF rows c k) := hPS
            have HROW : Hid (∀ j, j < rows.length → ∃ gk ck, wr.cell? ⟨gl, j, none⟩ = some (.slice (some ⟨gk, 0, none⟩) N ck) ∧ wr.cell? ⟨gk, c, none⟩ = some (.int .i64 (cl (rw_ rows j) c)) ∧ N ≤ ck ∧ ck ≤ maxLen ∧ I64 (cl (rw_ rows j) c)) := Lib.hid fun j hj => by
              obtain ⟨gk, ck, q1, _, q2, _, _, q3, q4, q5⟩ := HW3.out.a.num hj (HR2.out j hj) hlt
              exact ⟨gk, ck, q1, q2, q3, q4, q5⟩
            unfold maxLen at b4
            clear hPS hv1
            generalize cl (rw_ rows k) c = x at *
            generalize pickF rows c k = P at *
            rcases ex : (x != 0) with _ | _
            · have F : Hid (pickF rows c (k + 1) = P) := Lib.hid (by rw [HSET.out, if_neg (fun h => h.1 (by simpa using ex))])
              go_wp2_with fail
              go_quiet (fail)
              go_wp2
              go_roundw
              case rel => exact ⟨k + 1, by omega, by go_num, by rw [F.out], HM3.out _⟩
              case measure => simp [intOf]; omega
            have hx : x ≠ 0 := by simpa using ex
            rcases ep : decide (P < 0) with _ | _
            rotate_left
            · have F : Hid (pickF rows c (k + 1) = (k : Int)) := Lib.hid (by rw [HSET.out, if_pos ⟨hx, .inl (by simpa using ep)⟩])
              go_wp2_with fail
              go_quiet (fail)
              go_wp2
              go_roundw
              case rel => exact ⟨k + 1, by omega, by go_num, by rw [F.out], HM3.out _⟩
              case measure => simp [intOf]; omega
            have hp0 : 0 ≤ P := by simp at ep; omega
            obtain ⟨p, rfl⟩ : ∃ p : Nat, P = (p : Int) := ⟨P.toNat, by omega⟩
            have hpk : p < rows.length := by have := HL2.out; omega
            obtain ⟨gp, cp, q1, q2, q3, q4, hIy⟩ := HROW.out p hpk
            have hpI : (p : Int) < (nl : Int) := by omega
            unfold maxLen at q4
            rw [Int.toNat_natCast] at HSET
            generalize cl (rw_ rows p) c = y at *
            have HA1 : Hid (∀ W : World, Calls Try.prog 32 #[.int .i64 x] W fun e w' => e = .returned (.int .i64 (abs64 x)) ∧ W = w') := Lib.hid fun W => l21Abs_any x W
            have HA2 : Hid (∀ W : World, Calls Try.prog 32 #[.int .i64 y] W fun e w' => e = .returned (.int .i64 (abs64 y)) ∧ W = w') := Lib.hid fun W => l21Abs_any y W
            generalize abs64 x = ax at *
            generalize abs64 y = ay at *
            clear HROW hI hIy hPR
            rcases ea : decide (ax < ay) with _ | _
            · have F : Hid (pickF rows c (k + 1) = (p : Int)) := Lib.hid (by rw [HSET.out, if_neg (fun h => h.2.elim (fun h => by omega) fun h => by simp at ea; omega)])
              go_wp2_with fail
              go_quiet (first | (go_at_call 32; first | exact quiet_left (HA1.out _) | exact quiet_add_left (HA1.out _)) | (go_at_call 32; first | exact quiet_left (HA2.out _) | exact quiet_add_left (HA2.out _)))
              go_wp2
              go_roundw
              case rel => exact ⟨k + 1, by omega, by go_num, by rw [F.out], HM3.out _⟩
              case measure => simp [intOf]; omega
            · have F : Hid (pickF rows c (k + 1) = (k : Int)) := Lib.hid (by rw [HSET.out, if_pos ⟨hx, .inr (by simpa using ea)⟩])
              go_wp2_with fail
              go_quiet (first | (go_at_call 32; first | exact quiet_left (HA1.out _) | exact quiet_add_left (HA1.out _)) | (go_at_call 32; first | exact quiet_left (HA2.out _) | exact quiet_add_left (HA2.out _)))
              go_wp2
              go_roundw
              case rel => exact ⟨k + 1, by omega, by go_num, by rw [F.out], HM3.out _⟩
              case measure => simp [intOf]; omega
          · obtain rfl : k = nl := by omega
            have HB3 : Hid (Below w.heap.size w wr) := Lib.hid (by rw [HWM.out]; exact bel_drewN HB2.out m3)
            clear HM3 HWM
            have HPK := Lib.hid (pick_spec HD2.out rows.length)
            have hnr : rows.length = k := HL2.out
            rw [hnr] at HPK
            have HCS2 : Hid ((∃ f, endI c (f + 1) rows = true ∧ colI c (f + 1) rows = RES ∧ f + 1 + s ≤ 200) ∨ (s ≤ 201 ∧ ∃ j : Nat, pickF rows c k = (j : Int) ∧ (∀ i, i ≠ j → mg rows c i = 0) ∧ ((j : Int), rows) = RES)) := Lib.hid (by
              rcases HCS.out with ⟨f, h1, h2, h3⟩ | ⟨h1, j, h2, h3⟩
              · rcases f with _ | f
                · exact absurd h1 (by simp [endI])
                · exact .inl ⟨f, h1, h2, h3⟩
              · rw [hnr] at h2; exact .inr ⟨h1, j, h2, h3⟩)
            have HA1 : Hid (∀ f, colI c (f + 1) rows = if pickF rows c k < 0 then (-1, rows) else if moreF rows c (pickF rows c k).toNat k = true then colI c f (rnd rows c (pickF rows c k).toNat) else (pickF rows c k, rnd rows c (pickF rows c k).toNat)) := Lib.hid fun f => by rw [colI_succ, hnr]
            have HA2 : Hid (∀ f, endI c (f + 1) rows = if pickF rows c k < 0 then true else if moreF rows c (pickF rows c k).toNat k = true then endI c f (rnd rows c (pickF rows c k).toNat) else true) := Lib.hid fun f => by rw [endI_succ, hnr]
            clear HCS hnr
            generalize pickF rows c k = P at *
            rcases ep : decide (P < 0) with _ | _
            rotate_left
            · have hPn : P < 0 := by simpa using ep
              obtain rfl : P = -1 := by
                rcases HPK.out with ⟨h, _⟩ | ⟨h, _⟩
                · exact h
                · omega
              have HRS : Hid ((-1, rows) = RES) := Lib.hid (by
                rcases HCS2.out with ⟨f, _, h, _⟩ | ⟨_, j, h, _⟩
                · rw [HA1.out, if_pos (by decide)] at h; exact h
                · omega)
              have HS1 : Hid (hermS L (c + 1) = (rows, LO)) := Lib.hid (by
                rw [HSU.out]
                unfold phF
                rw [← HRES.out, ← HRS.out]
                rfl)
              clear HA1 HA2 HCS2 HPK ep hPn
              go_wp2
              go_loop [11, 12] (fun ch i => ch = .bool false ∧ i = .int .i64 0) (fun _ _ => 0)
              case atStart => exact ⟨rfl, rfl⟩
              case round =>
                obtain ⟨rfl, rfl⟩ := hrel
                rcases ek : decide ((0 : Int) < (k : Int)) with _ | _
                all_goals
                  go_wp2
                  go_roundw
                  all_goals first
                    | exact ⟨⟨c + 1, hW, hO, by omega, by go_num, by rw [HS1.out]; exact HW3.out, HB3.out⟩, by simp [intOf]; omega⟩
                    | exact ⟨c + 1, hW, hO, by omega, by go_num, by rw [HS1.out]; exact HW3.out, HB3.out⟩
                    | (simp [intOf]; omega)
            have hp0 : 0 ≤ P := by simp at ep; omega
            obtain ⟨j, rfl⟩ : ∃ j : Nat, P = (j : Int) := ⟨P.toNat, by omega⟩
            rw [Int.toNat_natCast] at HPK HA1 HA2
            have hjk : j < k := by
              rcases HPK.out with ⟨h, _⟩ | ⟨_, h, _⟩
              · omega
              · exact h
            have HJ0 : Hid (mg rows c j ≠ 0) := Lib.hid (by
              rcases HPK.out with ⟨h, _⟩ | ⟨_, _, h, _⟩
              · omega
              · exact h)
            clear HPK ep
            have hj0I : (0 : Int) ≤ (j : Int) := by omega
            have hjkI : (j : Int) < (k : Int) := by omega
            go_wp2
            go_loopw [11, 12] (fun ch i wr => ∃ (q : Nat) (hW' : List Value), q ≤ k ∧ i = .int .i64 q ∧ ch = .bool (chgF rows c j q) ∧ HH w.heap.size wr (.slice Al k cl_) hW' (rndF rows c j q) (.slice Ao LO.length co) hO LO ∧ Below w.heap.size w wr) (fun _ i _ => k - (intOf i).toNat)
            case atStart => exact ⟨0, hW, Nat.zero_le _, rfl, rfl, HW3.out, HB3.out⟩
            case round =>
              obtain ⟨q, hW', hq, rfl, rfl, hh4, hb4⟩ := hrel
              have HW4 := Lib.hid hh4
              have HB4 := Lib.hid hb4
              clear hh4 hb4
              by_cases hlt4 : q < k
              · have hqr : q < rows.length := by have := HL2.out; omega
                have hjr : j < rows.length := by have := HL2.out; omega
                obtain ⟨r1, r2, r3⟩ := rnd_rows (rows := rows) (c := c) (j := j) (k := q) (by omega)
                have HNX := Lib.hid (rnd_next rows c j q hqr)
                have HMX := Lib.hid (chgF_succ rows c j q)
                have HHIT : Hid (hitR rows c j q = (decide (q ≠ j) && decide (cl (rw_ rows q) c ≠ 0))) := Lib.hid rfl
                have HLQ := Lib.hid (HR2.out q hqr)
                have HL4 := Lib.hid r1
                rw [← r3] at HLQ
                obtain ⟨_, _, e3, _, _, hA3⟩ := HW4.out.a.form
                injection e3 with e3 e3b e3c
                clear e3b e3c
                obtain ⟨gl, hgl, _⟩ := hA3 (by omega)
                obtain rfl := e3.trans hgl
                clear e3 hA3
                obtain ⟨gk, ck, h1, hv1, h2, b1, b2, b3, b4, _⟩ := HW4.out.a.num (k := q) (by omega) HLQ.out hlt
                have HOQ := Lib.hid (HW4.out.a.own2 (k := q) (by omega) hv1)
                rw [r3] at h2 HLQ HOQ
                unfold maxLen at b4
                clear hv1 r1 r2 r3
                have HRQ : Hid (rw_ rows q = rw_ rows q) := Lib.hid rfl
                obtain ⟨rq, hrq⟩ : ∃ r, r = rw_ rows q := ⟨_, rfl⟩
                have HRQ := Lib.hid hrq
                rw [← hrq] at h2 HLQ HOQ HHIT
                clear hrq
                generalize hitR rows c j q = HT at *
                generalize chgF rows c j q = MQ at *
                rcases eq1 : ((q : Int) != (j : Int)) with _ | _
                · have hqj : q = j := by simp at eq1; omega
                  have F1 : Hid (HT = false) := Lib.hid (by rw [HHIT.out, decide_eq_false (fun h => h hqj)]; rfl)
                  have F2 : Hid (rndF rows c j (q + 1) = rndF rows c j q) := Lib.hid (by rw [HNX.out, F1.out]; rfl)
                  have F3 : Hid (chgF rows c j (q + 1) = MQ) := Lib.hid (by rw [HMX.out, F1.out]; simp)
                  clear hqj
                  go_wp2
                  go_roundw
                  case rel => exact ⟨q + 1, hW', by omega, by go_num, by rw [F3.out], by rw [F2.out]; exact HW4.out, HB4.out⟩
                  case measure => simp [intOf]; omega
                have hqj : q ≠ j := by simp at eq1; omega
                rcases ex : (cl rq c != 0) with _ | _
                · have F1 : Hid (HT = false) := Lib.hid (by rw [HHIT.out, decide_eq_false (show ¬ cl rq c ≠ 0 by simpa using ex)]; simp)
                  have F2 : Hid (rndF rows c j (q + 1) = rndF rows c j q) := Lib.hid (by rw [HNX.out, F1.out]; rfl)
                  have F3 : Hid (chgF rows c j (q + 1) = MQ) := Lib.hid (by rw [HMX.out, F1.out]; simp)
                  generalize cl rq c = x at *
                  go_wp2
                  go_roundw
                  case rel => exact ⟨q + 1, hW', by omega, by go_num, by rw [F3.out], by rw [F2.out]; exact HW4.out, HB4.out⟩
                  case measure => simp [intOf]; omega
                have hx : cl rq c ≠ 0 := by simpa using ex
                have F1 : Hid (HT = true) := Lib.hid (by rw [HHIT.out, decide_eq_true hqj, decide_eq_true hx]; rfl)
                have F2 : Hid (rndF rows c j (q + 1) = (rndF rows c j q).set q (newR rows c j q)) := Lib.hid (by rw [HNX.out, F1.out]; rfl)
                have F3 : Hid (chgF rows c j (q + 1) = true) := Lib.hid (by rw [HMX.out, F1.out]; simp)
                obtain ⟨r1, r2, r3⟩ := rnd_rows (rows := rows) (c := c) (j := j) (k := q) (by omega)
                have HNW : Hid (newR rows c j q = subR (rw_ rows q) (wrap64 (Int.tdiv (cl (rw_ rows q) c) (cl (rw_ rows j) c))) (rw_ rows j)) := Lib.hid rfl
                rw [← HRQ.out] at HNW
                obtain ⟨gj, cj, g1, gv1, g2, d1, d2, d3, d4, _⟩ := HW4.out.a.num (k := j) (by omega) (by rw [r2]; exact HR2.out j hjr) hlt
                have HOJ := Lib.hid (HW4.out.a.own2 (k := j) (by omega) gv1)
                have HLJ := Lib.hid (HR2.out j hjr)
                rw [r2] at g2 HOJ
                have HYN : Hid (cl (rw_ rows j) c ≠ 0) := Lib.hid fun e => HJ0.out (mg_zero.2 e)
                have hy := HYN.out
                have HGL : Hid (w.heap.size ≤ gl ∧ gl < wr.heap.size) := Lib.hid (HW4.out.a.rg gl (bl_own rfl))
                have HFZ : Hid (wr.frozen? ⟨gl, q, none⟩ = false) := Lib.hid (HW4.out.a.frozen q)
                have HCQ : Hid (wr.cell? ⟨gl, q, none⟩ = some (.slice (some ⟨gk, 0, none⟩) N ck)) := Lib.hid h1
                have HRL : Hid (q < (rndF rows c j q).length) := Lib.hid (by omega)
                unfold maxLen at d4
                clear r1 r2 r3 gv1
                generalize newR rows c j q = NR at *
                generalize rw_ rows j = rj at *
                generalize cl rq c = x at *
                generalize cl rj c = y at *
                go_wp2_with fail
                have fA := BelW.cell h2 b2
                have fB := BelW.cell g1 HGL.out.2
                have fC := BelW.cell g2 d2
                have fD := BelW.cell h1 HGL.out.2
                (refine wp_region_call3e 23 (by kernel_rfl) (by kernel_rfl) (by kernel_rfl) (by kernel_rfl) (by kernel_rfl) (by kernel_rfl) (by kernel_rfl) (by kernel_rfl) (by kernel_rfl) (by kernel_rfl) (by kernel_rfl) (by rfl) (by rfl) (.inl ⟨by rfl, fun ww => by (go_simp; rfl)⟩) (.inl ⟨by rfl, fun ww => by (go_simp; rfl)⟩) ?_; dsimp only [dum3, dumO]; simp only [Act.put, List.setIfInBounds_toArray, List.set_cons_zero, List.set_cons_succ]; (repeat (go_big_quiet_step (fail))); refine wpQuiet_nil ?_; refine ⟨⟨_, fun ww => by (go_simp; rfl)⟩, ?_⟩; intro wv hw'; obtain ⟨pq, hw''⟩ := hw'; have bv := pq.h; rw [← hw''] at bv; clear hw'' pq; refine ⟨_, _, by rfl, ?_⟩)
                have HV := Lib.hid bv
                clear bv fA fB fC fD h1 h2 g1 g2
                simp only [List.map_toArray, List.map_cons, List.map_nil, Array.empty_append, Array.append_empty]
                refine (show Calls Try.prog 24 #[.slice (some ⟨gk, 0, none⟩) N ck, .slice (some ⟨gj, 0, none⟩) N cj, .int .i64 (wrap64 (Int.tdiv x y))] wv _ from ?_)
                refine (l27Less_any _ _ rq rj (wrap64 (Int.tdiv x y)) wv (HOQ.out.below HV.out).rd (HOJ.out.below HV.out).rd (by rw [HLQ.out, HLJ.out]; exact Nat.le_refl _) (by rw [HLQ.out]; omega)).mono ?_
                rintro e w5 ⟨r5, rfl, o5, b5⟩
                rw [← HNW.out] at o5
                have HB5 : Hid (Below wr.heap.size wr w5) := Lib.hid (HV.out.trans (b5.mono HV.out.size))
                have qx := (HB5.out.cell (p := ⟨gl, q, none⟩) HGL.out.2).trans HCQ.out
                have qf := (HB5.out.frozen (p := ⟨gl, q, none⟩) HGL.out.2).trans HFZ.out
                have HH5 : Hid (HH w.heap.size (w5.setCell ⟨gl, q, none⟩ r5) (.slice (some ⟨gl, 0, none⟩) k cl_) (hW'.set q r5) ((rndF rows c j q).set q NR) (.slice Ao LO.length co) hO LO) := Lib.hid (HW4.out.store1 HRL.out HB5.out HB4.out.size (o5.mono HV.out.size))
                have HB6 : Hid (Below w.heap.size w (w5.setCell ⟨gl, q, none⟩ r5)) := Lib.hid ((HB4.out.trans (HB5.out.mono HB4.out.size)).setCell HGL.out.1 _)
                obtain ⟨A5, c5, rfl, _⟩ := o5.form
                clear o5 b5
                refine ⟨_, rfl, ?_⟩
                simp only [Act.put, List.setIfInBounds_toArray, List.set_cons_zero, List.set_cons_succ]
                go_wp2
                refine NoPanic.normal ?_
                go_wp2
                go_roundw
                case rel => exact ⟨q + 1, _, by omega, by go_num, by rw [F3.out], by rw [F2.out]; exact HH5.out, HB6.out⟩
                case measure => simp [intOf]; omega
              · obtain rfl : q = k := by omega
                have hrn : rndF rows c j q = rnd rows c j := by unfold rnd; rw [HL2.out]
                rw [hrn] at HW4
                obtain ⟨wt, rfl⟩ : ∃ wt : World, wt = wr := ⟨_, rfl⟩
                have hcl : chgF rows c j q = chgF rows c j rows.length := by rw [HL2.out]
                have hml : moreF rows c j q = moreF rows c j rows.length := by rw [HL2.out]
                have HJN : ¬ ((j : Int) < 0) := by omega
                rcases em : chgF rows c j q with _ | _
                rotate_left
                · have HNX : Hid ((∃ f, endI c f (rnd rows c j) = true ∧ colI c f (rnd rows c j) = RES ∧ f + (s + 1) ≤ 200) ∨ (s + 1 ≤ 201 ∧ ∃ j' : Nat, pickF (rnd rows c j) c (rnd rows c j).length = (j' : Int) ∧ (∀ i, i ≠ j' → mg (rnd rows c j) c i = 0) ∧ ((j' : Int), rnd rows c j) = RES)) := Lib.hid (by
                    rcases HCS2.out with ⟨f, h1, h2, h3⟩ | ⟨_, j', h1, h2, _⟩
                    · rw [HA2.out, if_neg HJN] at h1
                      rw [HA1.out, if_neg HJN] at h2
                      rcases emo : moreF rows c j q with _ | _
                      · rw [emo, if_neg (by decide)] at h2
                        have hz : ∀ i, i ≠ j → mg (rnd rows c j) c i = 0 := fun i hi => Decidable.byContradiction fun hne => by
                          have := (more_spec HR2.out hlt).2 ⟨i, hi, hne⟩
                          rw [← hml, emo] at this
                          cases this
                        have hj1 : mg (rnd rows c j) c j ≠ 0 := by rw [rnd_mg HR2.out hlt HD2.out HJ0.out, if_pos rfl]; exact HJ0.out
                        exact .inr ⟨by omega, j, pick_only (rnd_bd HR2.out hlt HD2.out HJ0.out) hj1 hz, hz, h2⟩
                      · rw [emo, if_pos rfl] at h1 h2
                        exact .inl ⟨f, h1, h2, by omega⟩
                    · exfalso
                      have : j' = j := by omega
                      subst this
                      have := (rnd_none h2).2
                      rw [← hcl, em] at this
                      cases this)
                  have HLR : Hid ((rnd rows c j).length = q) := Lib.hid (by rw [rnd_len]; exact HL2.out)
                  clear hcl hml hrn HA1 HA2 HCS2
                  go_wp2
                  go_roundw
                  case rel => exact ⟨rnd rows c j, hW', s + 1, by go_num, HW4.out, HB4.out, HLR, rnd_rect HR2.out c j, rnd_bd HR2.out hlt HD2.out HJ0.out, HNX.out⟩
                  case measure => simp [intOf]; omega
                rw [hcl] at em
                obtain ⟨hrr, hmo⟩ := chg_none em
                have HPR : Hid (((j : Int), rows) = colI c 200 LS) := Lib.hid (by
                  rw [← HRES.out]
                  rcases HCS2.out with ⟨f, h1, h2, h3⟩ | ⟨_, j', h1, _, h2⟩
                  · rw [HA1.out, if_neg HJN, hml, hmo, if_neg (by decide), hrr] at h2
                    exact h2
                  · have : j' = j := by omega
                    subst this
                    exact h2)
                rw [hrr] at HW4
                clear hrr hmo em hcl hml hrn HA1 HA2 HCS2 HRES HEND HBC HRC HW HBW HW2 HB2 HW3 HB3
                have HSTEP := Lib.hid (phI_step hN3.2 hlt HP.out)
                have HPF : Hid (hermS L (c + 1) = (rows.eraseIdx j, LO.map (redR c (fixR c (rw_ rows j))) ++ [fixR c (rw_ rows j)])) := Lib.hid (by
                  rw [HSU.out]
                  unfold phF
                  rw [← HPR.out, if_neg HJN, Int.toNat_natCast])
                have hjr : j < rows.length := by have := HL2.out; omega
                have HPC : Hid (0 < cl (fixR c (rw_ rows j)) c) := Lib.hid (by
                  rcases HSTEP.out.2 with h1 | h1
                  · simp only [← HPR.out] at h1; omega
                  · simp only [← HPR.out] at h1; exact h1.1)
                clear HPR HSTEP HSU
                obtain ⟨_, _, e3, _, _, hA3⟩ := HW4.out.a.form
                injection e3 with e3 e3b e3c
                clear e3b e3c
                obtain ⟨gl, hgl, _⟩ := hA3 (by omega)
                obtain rfl := e3.trans hgl
                clear e3 hA3
                have hrN := HR2.out j hjr
                obtain ⟨gf, cf, h1, hv1, h2, b1, b2, b3, b4, _⟩ := HW4.out.a.num hjr hrN hlt
                have HOF := Lib.hid (HW4.out.a.own2 hjr hv1)
                have HVF := Lib.hid hv1
                have HHL : Hid (hW'.length = q) := Lib.hid (by rw [HW4.out.a.len, HL2.out])
                have HRN := Lib.hid hrN
                have HGL : Hid (w.heap.size ≤ gl ∧ gl < wt.heap.size) := Lib.hid (HW4.out.a.rg gl (bl_own rfl))
                have hcap2 : q ≤ cl_ ∧ cl_ ≤ maxLen := by
                  obtain ⟨_, _, e, q1, q2, _⟩ := HW4.out.a.form
                  injection e with _ q4 q5
                  have := HL2.out
                  exact ⟨by omega, by omega⟩
                unfold maxLen at b4 hcap2
                obtain ⟨hcp1, hcp2⟩ := hcap2
                clear hrN hv1
                have z1 : (0 : Int) ≤ (j : Int) := by omega
                have z2 : (j : Int) ≤ (cl_ : Int) := by omega
                have z3 : (j : Int) + 1 ≤ (q : Int) := by omega
                have z4 : (q : Int) ≤ (cl_ : Int) := by omega
                have z5 : (0 : Int) ≤ (j : Int) + 1 := by omega
                have z6 : (j : Int) + 1 ≤ (cl_ : Int) := by omega
                have z7 : (j : Int) < (q : Int) := by omega
                have zw : IntKind.i64.wrap ((j : Int) + 1) = (j : Int) + 1 := by rw [IntKind.wrap_i64]; omega
                have HONE := Lib.hid HW4.out.a.ones
                have HEA : Hid (∀ k', k' < (hW'.eraseIdx j).length → (hd (hW'.eraseIdx j) k').ownBlock ≠ some gf) := Lib.hid (HW4.out.a.erase_apart hjr (by rw [HVF.out]; rfl))
                have HEH : Hid (∀ k', k' < (hW'.eraseIdx j).length → ∀ b, (hd (hW'.eraseIdx j) k').ownBlock = some b → b < wt.heap.size) := Lib.hid fun k' hk' b hb => by
                  rw [er_len (by rw [HHL.out]; omega)] at hk'
                  rw [hd_erase] at hb
                  exact (HW4.out.a.rg b (bl_hd (i := if k' < j then k' else k' + 1) (by have := HHL.out; split <;> omega) hb)).2
                have HGO : Hid (gf ∉ bl (.slice Ao LO.length co) hO) := Lib.hid (HW4.out.ap gf (bl_hd (i := j) (by rw [HHL.out]; omega) (by rw [HVF.out]; rfl)))
                have HGF : Hid (w.heap.size ≤ gf ∧ gf < wt.heap.size) := Lib.hid ⟨b1, b2⟩
                have HEL : Hid ((hW'.eraseIdx j).length = q - 1) := Lib.hid (by rw [er_len (by rw [HHL.out]; omega), HHL.out])
                -- behind the appends
                have HER : Hid (∀ v9 w9, Below wt.heap.size wt w9 → w9.ownsRow 0 27 1 v9 ((hW'.take j).length + (q - (j + 1))) (hW'.take j ++ hW'.drop (j + 1)) → (∀ b, v9.ownBlock = some b → wt.heap.size ≤ b) →
                    HB w.heap.size w9 v9 (hW'.eraseIdx j) (rows.eraseIdx j) ∧ HB w.heap.size w9 (.slice Ao LO.length co) hO LO ∧ (∀ x ∈ bl v9 (hW'.eraseIdx j), x ∉ bl (.slice Ao LO.length co) hO)) := Lib.hid fun v9 w9 hb hrow hat => by
                  have hlen : (hW'.take j).length + (q - (j + 1)) = hW'.length - 1 := by rw [List.length_take, HHL.out]; omega
                  rw [hlen] at hrow
                  refine ⟨HW4.out.a.eraseN hjr hb HB4.out.size hrow hat, HW4.out.b.below hb, fun x hx hm => ?_⟩
                  rcases bl_mem hx with h | ⟨i, hi, h⟩
                  · have := hat x h
                    have := (HW4.out.b.rg x hm).2
                    omega
                  · rw [er_len (by rw [HHL.out]; omega)] at hi
                    rw [hd_erase] at h
                    exact HW4.out.ap x (bl_hd (i := if i < j then i else i + 1) (by have := HHL.out; split <;> omega) h) hm
                have HNEW : Hid ((hW'.drop (j + 1)).length = q - (j + 1)) := Lib.hid (by rw [List.length_drop, HHL.out])
                have HTL : Hid ((hW'.take j).length = j) := Lib.hid (by rw [List.length_take, HHL.out]; omega)
                have HDO : Hid (∀ u ∈ hW'.drop (j + 1), u.oneCell' = true) := Lib.hid fun u hu => HONE.out u (List.mem_of_mem_drop hu)
                have HDT : Hid (∀ u ∈ hW'.take j, u.oneCell' = true) := Lib.hid fun u hu => HONE.out u (List.mem_of_mem_take hu)
                have HCD : Hid (∀ w9, Below wt.heap.size wt w9 → ∀ i u, (hW'.drop (j + 1))[i]? = some u → w9.cell? ((⟨gl, j + 1, none⟩ : Addr).add i) = some u) := Lib.hid fun w9 hb i u hu => by
                  rw [List.getElem?_drop] at hu
                  have hlt5 := (List.getElem?_eq_some_iff.1 hu).1
                  have hc := (HW4.out.a.at (k := j + 1 + i) (by rw [← HW4.out.a.len]; exact hlt5)).1
                  rw [hd_mem hlt5] at hc
                  rw [List.getElem?_eq_getElem hlt5] at hu
                  injection hu with hu
                  rw [← hu, Addr.add_lit]
                  exact (hb.cell (p := ⟨gl, j + 1 + i, none⟩) HGL.out.2).trans hc
                have HCT : Hid (∀ w9, Below wt.heap.size wt w9 → ∀ i u, (hW'.take j)[i]? = some u → w9.cell? ((⟨gl, 0, none⟩ : Addr).add i) = some u) := Lib.hid fun w9 hb i u hu => by
                  rw [List.getElem?_take] at hu
                  split at hu
                  · have hlt5 := (List.getElem?_eq_some_iff.1 hu).1
                    have hc := (HW4.out.a.at (k := i) (by rw [← HW4.out.a.len]; exact hlt5)).1
                    rw [hd_mem hlt5] at hc
                    rw [List.getElem?_eq_getElem hlt5] at hu
                    injection hu with hu
                    rw [← hu, Addr.add_lit, Nat.zero_add]
                    exact (hb.cell (p := ⟨gl, i, none⟩) HGL.out.2).trans hc
                  · cases hu
                have HFX : Hid (0 < cl (fixR c (rw_ rows j)) c) := HPC
                have HFL : Hid (fixR c (rw_ rows j) = if cl (rw_ rows j) c < 0 then (rw_ rows j).map negW else rw_ rows j) := Lib.hid rfl
                have HFR : Hid (∀ t, I64 (cl (rw_ rows j) t)) := Lib.hid fun t => by
                  by_cases ht : t < (rw_ rows j).length
                  · rw [cl_get ht]; exact HOF.out.2 _ (by simp)
                  · rw [cl_out (by omega)]; exact ⟨by omega, by omega⟩
                clear HPC
                generalize rows.eraseIdx j = rowsE at *
                generalize hW'.eraseIdx j = hLE at *
                generalize hW'.take j = hT at *
                generalize hW'.drop (j + 1) = hDr at *
                generalize fixR c (rw_ rows j) = fx at *
                generalize rw_ rows j = fr at *
                have HFN : Hid (fx.length = N) := Lib.hid (by rw [HFL.out]; split <;> simp [HRN.out])
                rcases ex : decide (cl fr c < 0) with _ | _
                · have hfx : fx = fr := by rw [HFL.out, if_neg (by simpa using ex)]
                  have HXO : Hid (OwI wt 0 (.slice (some ⟨gf, 0, none⟩) N cf) fx) := Lib.hid (by rw [hfx]; exact HOF.out)
                  have HXB : Hid (Below wt.heap.size wt wt) := Lib.hid (Below.refl _ _)
                  have HXG : Hid (w.heap.size ≤ gf ∧ gf < wt.heap.size) := HGF
                  have HXH : Hid (∀ k', k' < hLE.length → (hd hLE k').ownBlock ≠ some gf) := HEA
                  have HXD : Hid (gf ∉ bl (.slice Ao LO.length co) hO) := HGO
                  have HXC : cf ≤ 2 ^ 63 - 1 := b4
                  obtain ⟨wx, hwx⟩ : ∃ W : World, W = wt := ⟨_, rfl⟩
                  rw [← hwx] at HXO HXG h1 h2
                  have HXB : Hid (Below wt.heap.size wt wx) := Lib.hid (by rw [hwx]; exact Below.refl _ _)
                  obtain ⟨gx, hgx⟩ : ∃ g : Nat, g = gf := ⟨_, rfl⟩
                  obtain ⟨cx, hcx⟩ : ∃ g : Nat, g = cf := ⟨_, rfl⟩
                  rw [← hgx] at HXO HXG HXH HXD h1 h2
                  rw [← hcx] at HXO HXC h1
                  generalize cl fr c = x9 at *
                  rw [← hwx]
                  clear hfx hwx hgx hcx HEA HGO HGF
                  go_wp2_with fail
                  have HDR : Hid (Below wt.heap.size wt (wx.drew.alloc (.cells #[] 27))) := Lib.hid ((HXB.out.drew).alloc (by have := HXB.out.size; exact this) _)
                  have OE : Hid ((wx.drew.alloc (.cells #[] 27)).ownsRow 0 27 1 (.slice (some ⟨wx.heap.size, 0, none⟩) 0 0) 0 []) := Lib.hid (by
                    have := World.ownsRow_lit (e := 27) (size := 1) (base := 0) wx.drew #[] 0 (Nat.zero_le _) (by unfold maxLen; omega) (by simp)
                    simpa using this)
                  have hxs : wt.heap.size ≤ wx.heap.size := HXB.out.size
                  have hTl : hT.length + (q - (j + 1)) ≤ 1073741824 := by have := HTL.out; omega
                  obtain ⟨ad, HAD, HCA⟩ : ∃ ad : Addr, Hid ((if cl_ = j + 1 then some ⟨gl, 0, none⟩ else some ⟨gl, j + 1, none⟩ : Option Addr) = some ad) ∧ Hid (∀ w9, Below wt.heap.size wt w9 → ∀ i u, hDr[i]? = some u → w9.cell? (ad.add i) = some u) := by
                    by_cases hcu : cl_ = j + 1
                    · refine ⟨⟨gl, 0, none⟩, Lib.hid (if_pos hcu), Lib.hid fun w9 hb i u hu => ?_⟩
                      have := (List.getElem?_eq_some_iff.1 hu).1
                      have := HNEW.out
                      omega
                    · exact ⟨⟨gl, j + 1, none⟩, Lib.hid (if_neg hcu), HCD⟩
                  go_region_held3 (fun w' => True) (trivial)
                    (first
                      | (refine step_append_hdrs rfl (.tmp 140) (.tmp 143) rfl _ [] OE.out (by rfl) ⟨gl, 0, none⟩ j cl_ hT HTL.out (HCT.out _ HDR.out) HDT.out (by rfl) (by simp; omega) ?_; intro v8 w8 o8 g8 p8; have X8 := Lib.hid (app_first HTL.out o8 g8 p8); clear o8 g8 p8)
                      | (refine step_append_hdrs rfl (.tmp 144) (.tmp 148) rfl v8 hT X8.out.1 (by rfl) ad (q - (j + 1)) (cl_ - (j + 1)) hDr HNEW.out (HCA.out w8 (HXB.out.trans (X8.out.2.1.mono hxs))) HDO.out (by show Value.slice (if cl_ = j + 1 then some ⟨gl, 0, none⟩ else some ⟨gl, j + 1, none⟩ : Option Addr) (q - (j + 1)) (cl_ - (j + 1)) = _; rw [HAD.out]) hTl ?_; intro v9 w9 o9 g9 p9; have X9 := Lib.hid (app_second HXB.out X8.out.2.1 X8.out.2.2 g9 p9); have HR9 := Lib.hid (HER.out v9 w9 X9.out.1 o9 X9.out.2.1); clear o9 g9 p9))
                  rw [HAD.out]
                  clear HER HCA HAD HCT HCD HDO HDT HNEW hTl HTL X8 OE HDR HONE
                  obtain ⟨hbL, hbO, hap⟩ := HR9.out
                  have HG1 : Hid (gx ∉ bl v9 hLE) := Lib.hid fun hm => by
                    rcases bl_mem hm with h | ⟨i, hi, h⟩
                    · have := X9.out.2.2.2 gx h
                      have := HXG.out
                      omega
                    · exact HXH.out i hi h
                  have HF9 : Hid (OwI w9 0 (.slice (some ⟨gx, 0, none⟩) N cx) fx) := Lib.hid (HXO.out.below X9.out.2.2.1)
                  have HB9 : Hid (Below w.heap.size w w9) := Lib.hid (HB4.out.trans (X9.out.1.mono HB4.out.size))
                  have hg9 : gx < w9.heap.size := by have := HXG.out; have := X9.out.2.2.1.size; omega
                  have HGF9 : Hid (w.heap.size ≤ gx) := Lib.hid HXG.out.1
                  obtain ⟨A9, c9, rfl, _, _, _⟩ := hbL.form
                  have HH9 : Hid (HH w.heap.size w9 (.slice A9 rowsE.length c9) hLE rowsE (.slice Ao LO.length co) hO LO) := Lib.hid ⟨hbL, hbO, hap⟩
                  clear hbL hbO hap X9 HR9 HXO HXB HXG HXH hxs HFR HFL HEH HEL HW4 HB4
                  go_wp2
                  go_loopw [14] (fun i wr => ∃ (k : Nat) (hO' : List Value), k ≤ LO.length ∧ i = .int .i64 k ∧ HH w.heap.size wr (.slice A9 rowsE.length c9) hLE rowsE (.slice Ao LO.length co) hO' ((LO.take k).map (redR c fx) ++ LO.drop k) ∧ OwI wr 0 (.slice (some ⟨gx, 0, none⟩) N cx) fx ∧ Below w.heap.size w wr ∧ gx < wr.heap.size ∧ gx ∉ bl (.slice Ao LO.length co) hO') (fun i _ => LO.length - (intOf i).toNat)
                  case atStart => exact ⟨0, hO, Nat.zero_le _, rfl, by simpa using HH9.out, HF9.out, HB9.out, hg9, HXD.out⟩
                  case round =>
                    obtain ⟨k, hO', hk6, rfl, r1, r2, r3, r4, r5⟩ := hrel
                    have HR1 := Lib.hid r1
                    have HR3 := Lib.hid r2
                    have HR4 := Lib.hid r3
                    have HR5 := Lib.hid r4
                    have HR6 := Lib.hid r5
                    clear r1 r2 r3 r4 r5 HH9 HF9 HB9 hg9 HXD
                    by_cases hlt6 : k < LO.length
                    · have hat6 := red_at LO (redR c fx) k hlt6
                      have HST6 := Lib.hid (red_step LO (redR c fx) k hlt6)
                      have HDN : Hid ((rw_ LO k).length = N) := Lib.hid (HP.out.olen _ (by rw [rw_mem hlt6]; exact List.getElem_mem hlt6))
                      have HL6 := Lib.hid hat6.2
                      obtain ⟨_, _, e3, _, _, hA3⟩ := HR1.out.b.form
                      injection e3 with e3 e3b e3c
                      clear e3b e3c
                      obtain ⟨go_, hgo, _⟩ := hA3 (by rw [hat6.2]; omega)
                      obtain rfl := e3.trans hgo
                      clear e3 hA3
                      obtain ⟨gk, ck, h1, hv1, h2, b1, b2, b3, b4, _⟩ := HR1.out.b.num (k := k) (by rw [hat6.2]; exact hlt6) (by rw [hat6.1]; exact HDN.out) hlt
                      have HOK := Lib.hid (HR1.out.b.own2 (k := k) (by rw [hat6.2]; exact hlt6) hv1)
                      rw [hat6.1] at h2 HOK
                      have hfN : fx.length = N := HFN.out
                      have hcf := HR3.out.cellAt c (by omega)
                      rw [← cl_get (by omega)] at hcf
                      have HGO6 : Hid (w.heap.size ≤ go_ ∧ go_ < wr.heap.size) := Lib.hid (HR1.out.b.rg go_ (bl_own rfl))
                      have HGX6 : Hid (gx ≠ go_) := Lib.hid fun e => HR6.out (by rw [e]; exact bl_own rfl)
                      have HFZ6 : Hid (wr.frozen? ⟨go_, k, none⟩ = false) := Lib.hid (HR1.out.b.frozen k)
                      have HCQ6 : Hid (wr.cell? ⟨go_, k, none⟩ = some (.slice (some ⟨gk, 0, none⟩) N ck)) := Lib.hid h1
                      unfold maxLen at b4
                      have hy := HFX.out
                      have HRED : Hid (redR c fx (rw_ LO k) = subR (rw_ LO k) (floorW (cl (rw_ LO k) c) (cl fx c)) fx) := Lib.hid rfl
                      clear hat6 hv1 hfN
                      generalize redR c fx (rw_ LO k) = DN at *
                      generalize rw_ LO k = d at *
                      generalize cl d c = x6 at *
                      generalize cl fx c = y6 at *
                      have HFLO : Hid (∀ W : World, Calls Try.prog 33 #[.int .i64 x6, .int .i64 y6] W fun e w' => e = .returned (.int .i64 (floorW x6 y6)) ∧ W = w') := Lib.hid fun W => l27Floor_any x6 y6 W hy
                      generalize floorW x6 y6 = q6 at *
                      go_wp2_with fail
                      have fA := BelW.cell h2 b2
                      have fB := BelW.cell hcf HR5.out
                      have fD := BelW.cell h1 HGO6.out.2
                      (refine wp_region_call3e 17 (by kernel_rfl) (by kernel_rfl) (by kernel_rfl) (by kernel_rfl) (by kernel_rfl) (by kernel_rfl) (by kernel_rfl) (by kernel_rfl) (by kernel_rfl) (by kernel_rfl) (by kernel_rfl) (by rfl) (by rfl) (.inl ⟨by rfl, fun ww => by (go_simp; rfl)⟩) (.inl ⟨by rfl, fun ww => by (go_simp; rfl)⟩) ?_; dsimp only [dum3, dumO]; simp only [Act.put, List.setIfInBounds_toArray, List.set_cons_zero, List.set_cons_succ]; (repeat (go_big_quiet_step ((go_at_call 33; exact Calls.bel_same (HFLO.out _))))); refine wpQuiet_nil ?_; refine ⟨⟨_, fun ww => by (go_simp; rfl)⟩, ?_⟩; intro wv hw'; obtain ⟨pq, hw''⟩ := hw'; have bv := pq.h; rw [← hw''] at bv; clear hw'' pq; refine ⟨_, _, by rfl, ?_⟩)
                      have HV := Lib.hid bv
                      clear bv fA fB fD h1 h2 hcf
                      simp only [List.map_toArray, List.map_cons, List.map_nil, Array.empty_append, Array.append_empty]
                      refine (show Calls Try.prog 24 #[.slice (some ⟨gk, 0, none⟩) N ck, .slice (some ⟨gx, 0, none⟩) N cx, .int .i64 q6] wv _ from ?_)
                      refine (l27Less_any _ _ d fx q6 wv (HOK.out.below HV.out).rd (HR3.out.below HV.out).rd (by rw [HDN.out, HFN.out]; exact Nat.le_refl _) (by rw [HDN.out]; omega)).mono ?_
                      rintro e w5 ⟨r5, rfl, o5, b5⟩
                      rw [← HRED.out] at o5
                      have HB5 : Hid (Below wr.heap.size wr w5) := Lib.hid (HV.out.trans (b5.mono HV.out.size))
                      have qx := (HB5.out.cell (p := ⟨go_, k, none⟩) HGO6.out.2).trans HCQ6.out
                      have qf := (HB5.out.frozen (p := ⟨go_, k, none⟩) HGO6.out.2).trans HFZ6.out
                      have HH5 : Hid (HH w.heap.size (w5.setCell ⟨go_, k, none⟩ r5) (.slice A9 rowsE.length c9) hLE rowsE (.slice (some ⟨go_, 0, none⟩) LO.length co) (hO'.set k r5) ((LO.take (k + 1)).map (redR c fx) ++ LO.drop (k + 1))) := Lib.hid (by
                        have := HR1.out.store2 (i := k) (by rw [HL6.out]; exact hlt6) HB5.out HR4.out.size (o5.mono HV.out.size)
                        rw [HST6.out] at this
                        exact this)
                      have HB6 : Hid (Below w.heap.size w (w5.setCell ⟨go_, k, none⟩ r5)) := Lib.hid ((HR4.out.trans (HB5.out.mono HR4.out.size)).setCell HGO6.out.1 _)
                      have HS3 : Hid (OwI (w5.setCell ⟨go_, k, none⟩ r5) 0 (.slice (some ⟨gx, 0, none⟩) N cx) fx) := Lib.hid ((HR3.out.below HB5.out).keep0 fun b hb => by
                        simp [Value.ownBlock] at hb
                        subst hb
                        exact Below.heap_setCell _ _ _ _ HGX6.out)
                      have HS4 : Hid (gx < (w5.setCell ⟨go_, k, none⟩ r5).heap.size) := Lib.hid (by have e : (w5.setCell ⟨go_, k, none⟩ r5).heap.size = w5.heap.size := by simp
                                                                                                    have := HR5.out; have := HB5.out.size; omega)
                      have HS5 : Hid (gx ∉ bl (.slice (some ⟨go_, 0, none⟩) LO.length co) (hO'.set k r5)) := Lib.hid fun hm => by
                        rcases bl_set (by rw [HR1.out.b.len, HL6.out]; exact hlt6) hm with h | h
                        · exact HR6.out h
                        · have := (o5.1.lt gx h).1
                          have := HR5.out
                          have := HV.out.size
                          omega
                      obtain ⟨A5, c5, rfl, _⟩ := o5.form
                      clear o5 b5
                      refine ⟨_, rfl, ?_⟩
                      simp only [Act.put, List.setIfInBounds_toArray, List.set_cons_zero, List.set_cons_succ]
                      go_wp2
                      refine NoPanic.normal ?_
                      go_wp2
                      go_roundw
                      case rel => exact ⟨k + 1, _, by omega, by go_num, HH5.out, HS3.out, HB6.out, HS4.out, HS5.out⟩
                      case measure => simp [intOf]; omega
                    · obtain rfl : k = LO.length := by omega
                      have hfin : (LO.take LO.length).map (redR c fx) ++ LO.drop LO.length = LO.map (redR c fx) := by rw [List.take_length, List.drop_length, List.append_nil]
                      rw [hfin] at HR1
                      clear hfin
                      have HWA : Hid (Below wr.heap.size wr (wr.alloc (.cells #[.slice (some ⟨gx, 0, none⟩) N cx] 27))) := Lib.hid ((Below.refl _ _).alloc (Nat.le_refl _) _)
                      have HROW := Lib.hid (HR1.out.b.below HWA.out)
                      have hol : hO'.length = LO.length := by rw [HR1.out.b.len, List.length_map]
                      have HOL := Lib.hid hol
                      have hol3 : hO'.length ≤ 3 := by omega
                      clear hol
                      go_wp2_with (at_builtin; refine append_hdrs rfl (.tmp 177) (.tmp 179) rfl _ hO' HROW.out.row (by rfl) ⟨wr.heap.size, 0, none⟩ 1 1 [.slice (some ⟨gx, 0, none⟩) N cx] rfl (cell_one_new _ _ _) (fun u hu => by simp at hu; subst hu; rfl) (by rfl) (by simp; omega) ?_; intro v8 w8 o8 g8 p8)
                      have hwsz : (wr.alloc (.cells #[.slice (some ⟨gx, 0, none⟩) N cx] 27)).heap.size = wr.heap.size + 1 := by simp
                      have hw4 := HR4.out.size
                      have HPU : Hid (HB w.heap.size w8 v8 (hO' ++ [.slice (some ⟨gx, 0, none⟩) N cx]) (LO.map (redR c fx) ++ [fx])) := Lib.hid (HROW.out.pushH (f := .slice (some ⟨gx, 0, none⟩) N cx) (r := fx) (by simpa using o8) g8 p8 (by rw [hwsz]; omega) (HR3.out.below HWA.out) fun b hb => by
                        simp [Value.ownBlock] at hb
                        subst hb
                        exact ⟨HGF9.out, by have := HR5.out; omega, HR6.out⟩)
                      have HLE8 : Hid (HB w.heap.size w8 (.slice A9 rowsE.length c9) hLE rowsE) := Lib.hid ((HR1.out.a.below HWA.out).grown g8 fun b hb hm => HR1.out.ap b hm (bl_own hb))
                      have HB8 : Hid (Below w.heap.size w w8) := Lib.hid ((HR4.out.trans (HWA.out.mono hw4)).grown g8 (by rw [hwsz]; omega) fun b hb => (HR1.out.b.rg b (bl_own hb)).1)
                      have HAP8 : Hid (∀ x ∈ bl (.slice A9 rowsE.length c9) hLE, x ∉ bl v8 (hO' ++ [.slice (some ⟨gx, 0, none⟩) N cx])) := Lib.hid fun x hx hm => by
                        have hxs := (HR1.out.a.rg x hx).2
                        rcases bl_push (v := .slice Ao LO.length co) hm with h | h | h
                        · rcases p8 with e | e
                          · rw [e] at h; exact HR1.out.ap x hx (bl_own h)
                          · rw [e] at h; injection h with h; rw [hwsz] at h; omega
                        · exact HR1.out.ap x hx h
                        · simp [Value.ownBlock] at h; exact HG1.out (by rw [h]; exact hx)
                      have HS9 : Hid (hermS L (c + 1) = (rowsE, LO.map (redR c fx) ++ [fx])) := HPF
                      clear o8 g8 p8 hwsz
                      go_wp2
                      go_roundw
                      all_goals first
                        | exact ⟨⟨c + 1, hLE, hO' ++ [.slice (some ⟨gx, 0, none⟩) N cx], by omega, by go_num, by rw [HS9.out]; exact ⟨HLE8.out, HPU.out, HAP8.out⟩, HB8.out⟩, by simp [intOf]; omega⟩
                        | exact ⟨c + 1, hLE, hO' ++ [.slice (some ⟨gx, 0, none⟩) N cx], by omega, by go_num, by rw [HS9.out]; exact ⟨HLE8.out, HPU.out, HAP8.out⟩, HB8.out⟩
                        | (simp [intOf]; omega)
                · have hfx : fx = fr.map negW := by rw [HFL.out, if_pos (by simpa using ex)]
                  have HFM := Lib.hid hfx
                  clear hfx
                  obtain ⟨i0, hi0, hz0, hz1, hz2⟩ := info_parts int_info
                  have HXN : Hid (subR (List.replicate N 0) 1 fr = fx) := Lib.hid (by rw [HFM.out]; exact sub_neg HRN.out HFR.out)
                  generalize cl fr c = x9 at *
                  go_wp2_with (at_make; refine wpList_make_full _ rfl _ _ 27 rfl wt.heap.size 3 i0 (.int .i64 0) 1 Try.underlying27 hi0 hz0 hz1 _ _ _ _ N rfl rfl rfl rfl (by rw [hz2]; omega) (by unfold maxLen; omega) (Nat.le_refl _) ?_; intro w0 hown0 hgrow0)
                  have O0 : Hid (OwI w0 wt.heap.size (.slice (some ⟨wt.heap.size, 0, none⟩) N N) (List.replicate N 0)) := Lib.hid ⟨by have h := hown0; rw [show (Value.int IntKind.i64 0).cells = #[Value.int .i64 0] from rfl, Nat.mul_one, toList_madeCells_one] at h; simpa using h, fun x hx => by simp at hx; rw [hx.2]; unfold I64; omega⟩
                  have B0 : Hid (Below wt.heap.size wt w0) := Lib.hid ((Below.refl _ _).grown hgrow0 (Nat.le_refl _) (fun k h => by cases h))
                  clear hown0 hgrow0
                  go_wp2_with fail
                  refine (l27Less_any _ _ (List.replicate N 0) fr 1 w0 O0.out.rd (HOF.out.below B0.out).rd (by rw [List.length_replicate, HRN.out]; exact Nat.le_refl _) (by rw [List.length_replicate]; omega)).mono ?_
                  rintro e wx ⟨r5, rfl, o5, b5⟩
                  rw [HXN.out] at o5
                  have HXB : Hid (Below wt.heap.size wt wx) := Lib.hid (B0.out.trans (b5.mono B0.out.size))
                  obtain ⟨A5, cx, rfl, hcx, hcm, _, hA5⟩ := OwI.form o5
                  obtain ⟨gx, rfl, hg5, hg6⟩ := hA5 (by rw [HFN.out]; omega)
                  rw [HFN.out] at o5 hcx ⊢
                  have HXO : Hid (OwI wx 0 (.slice (some ⟨gx, 0, none⟩) N cx) fx) := Lib.hid (o5.mono (Nat.zero_le _))
                  have HXG : Hid (w.heap.size ≤ gx ∧ gx < wx.heap.size) := Lib.hid ⟨by have := HB4.out.size; have := B0.out.size; omega, hg6⟩
                  have HXG2 : Hid (wt.heap.size ≤ gx) := Lib.hid (by have := B0.out.size; omega)
                  have HXH : Hid (∀ k', k' < hLE.length → (hd hLE k').ownBlock ≠ some gx) := Lib.hid fun k' hk' hv => by
                    have := HEH.out k' hk' gx hv
                    have := HXG2.out
                    omega
                  have HXD : Hid (gx ∉ bl (.slice Ao LO.length co) hO) := Lib.hid fun hm => by have := (HW4.out.b.rg gx hm).2; have := HXG2.out; omega
                  have HXC : cx ≤ 2 ^ 63 - 1 := by unfold maxLen at hcm; exact hcm
                  clear o5 b5 HXG2 HXN HFM O0 B0 hg5 hg6 hi0 hz0 hz1 hz2 HEA HGO HGF
                  go_wp2_with fail
                  have HDR : Hid (Below wt.heap.size wt (wx.drew.alloc (.cells #[] 27))) := Lib.hid ((HXB.out.drew).alloc (by have := HXB.out.size; exact this) _)
                  have OE : Hid ((wx.drew.alloc (.cells #[] 27)).ownsRow 0 27 1 (.slice (some ⟨wx.heap.size, 0, none⟩) 0 0) 0 []) := Lib.hid (by
                    have := World.ownsRow_lit (e := 27) (size := 1) (base := 0) wx.drew #[] 0 (Nat.zero_le _) (by unfold maxLen; omega) (by simp)
                    simpa using this)
                  have hxs : wt.heap.size ≤ wx.heap.size := HXB.out.size
                  have hTl : hT.length + (q - (j + 1)) ≤ 1073741824 := by have := HTL.out; omega
                  obtain ⟨ad, HAD, HCA⟩ : ∃ ad : Addr, Hid ((if cl_ = j + 1 then some ⟨gl, 0, none⟩ else some ⟨gl, j + 1, none⟩ : Option Addr) = some ad) ∧ Hid (∀ w9, Below wt.heap.size wt w9 → ∀ i u, hDr[i]? = some u → w9.cell? (ad.add i) = some u) := by
                    by_cases hcu : cl_ = j + 1
                    · refine ⟨⟨gl, 0, none⟩, Lib.hid (if_pos hcu), Lib.hid fun w9 hb i u hu => ?_⟩
                      have := (List.getElem?_eq_some_iff.1 hu).1
                      have := HNEW.out
                      omega
                    · exact ⟨⟨gl, j + 1, none⟩, Lib.hid (if_neg hcu), HCD⟩
                  go_region_held3 (fun w' => True) (trivial)
                    (first
                      | (refine step_append_hdrs rfl (.tmp 140) (.tmp 143) rfl _ [] OE.out (by rfl) ⟨gl, 0, none⟩ j cl_ hT HTL.out (HCT.out _ HDR.out) HDT.out (by rfl) (by simp; omega) ?_; intro v8 w8 o8 g8 p8; have X8 := Lib.hid (app_first HTL.out o8 g8 p8); clear o8 g8 p8)
                      | (refine step_append_hdrs rfl (.tmp 144) (.tmp 148) rfl v8 hT X8.out.1 (by rfl) ad (q - (j + 1)) (cl_ - (j + 1)) hDr HNEW.out (HCA.out w8 (HXB.out.trans (X8.out.2.1.mono hxs))) HDO.out (by show Value.slice (if cl_ = j + 1 then some ⟨gl, 0, none⟩ else some ⟨gl, j + 1, none⟩ : Option Addr) (q - (j + 1)) (cl_ - (j + 1)) = _; rw [HAD.out]) hTl ?_; intro v9 w9 o9 g9 p9; have X9 := Lib.hid (app_second HXB.out X8.out.2.1 X8.out.2.2 g9 p9); have HR9 := Lib.hid (HER.out v9 w9 X9.out.1 o9 X9.out.2.1); clear o9 g9 p9))
                  rw [HAD.out]
                  clear HER HCA HAD HCT HCD HDO HDT HNEW hTl HTL X8 OE HDR HONE
                  obtain ⟨hbL, hbO, hap⟩ := HR9.out
                  have HG1 : Hid (gx ∉ bl v9 hLE) := Lib.hid fun hm => by
                    rcases bl_mem hm with h | ⟨i, hi, h⟩
                    · have := X9.out.2.2.2 gx h
                      have := HXG.out
                      omega
                    · exact HXH.out i hi h
                  have HF9 : Hid (OwI w9 0 (.slice (some ⟨gx, 0, none⟩) N cx) fx) := Lib.hid (HXO.out.below X9.out.2.2.1)
                  have HB9 : Hid (Below w.heap.size w w9) := Lib.hid (HB4.out.trans (X9.out.1.mono HB4.out.size))
                  have hg9 : gx < w9.heap.size := by have := HXG.out; have := X9.out.2.2.1.size; omega
                  have HGF9 : Hid (w.heap.size ≤ gx) := Lib.hid HXG.out.1
                  obtain ⟨A9, c9, rfl, _, _, _⟩ := hbL.form
                  have HH9 : Hid (HH w.heap.size w9 (.slice A9 rowsE.length c9) hLE rowsE (.slice Ao LO.length co) hO LO) := Lib.hid ⟨hbL, hbO, hap⟩
                  clear hbL hbO hap X9 HR9 HXO HXB HXG HXH hxs HFR HFL HEH HEL HW4 HB4
                  go_wp2
                  go_loopw [14] (fun i wr => ∃ (k : Nat) (hO' : List Value), k ≤ LO.length ∧ i = .int .i64 k ∧ HH w.heap.size wr (.slice A9 rowsE.length c9) hLE rowsE (.slice Ao LO.length co) hO' ((LO.take k).map (redR c fx) ++ LO.drop k) ∧ OwI wr 0 (.slice (some ⟨gx, 0, none⟩) N cx) fx ∧ Below w.heap.size w wr ∧ gx < wr.heap.size ∧ gx ∉ bl (.slice Ao LO.length co) hO') (fun i _ => LO.length - (intOf i).toNat)
                  case atStart => exact ⟨0, hO, Nat.zero_le _, rfl, by simpa using HH9.out, HF9.out, HB9.out, hg9, HXD.out⟩
                  case round =>
                    obtain ⟨k, hO', hk6, rfl, r1, r2, r3, r4, r5⟩ := hrel
                    have HR1 := Lib.hid r1
                    have HR3 := Lib.hid r2
                    have HR4 := Lib.hid r3
                    have HR5 := Lib.hid r4
                    have HR6 := Lib.hid r5
                    clear r1 r2 r3 r4 r5 HH9 HF9 HB9 hg9 HXD
                    by_cases hlt6 : k < LO.length
                    · have hat6 := red_at LO (redR c fx) k hlt6
                      have HST6 := Lib.hid (red_step LO (redR c fx) k hlt6)
                      have HDN : Hid ((rw_ LO k).length = N) := Lib.hid (HP.out.olen _ (by rw [rw_mem hlt6]; exact List.getElem_mem hlt6))
                      have HL6 := Lib.hid hat6.2
                      obtain ⟨_, _, e3, _, _, hA3⟩ := HR1.out.b.form
                      injection e3 with e3 e3b e3c
                      clear e3b e3c
                      obtain ⟨go_, hgo, _⟩ := hA3 (by rw [hat6.2]; omega)
                      obtain rfl := e3.trans hgo
                      clear e3 hA3
                      obtain ⟨gk, ck, h1, hv1, h2, b1, b2, b3, b4, _⟩ := HR1.out.b.num (k := k) (by rw [hat6.2]; exact hlt6) (by rw [hat6.1]; exact HDN.out) hlt
                      have HOK := Lib.hid (HR1.out.b.own2 (k := k) (by rw [hat6.2]; exact hlt6) hv1)
                      rw [hat6.1] at h2 HOK
                      have hfN : fx.length = N := HFN.out
                      have hcf := HR3.out.cellAt c (by omega)
                      rw [← cl_get (by omega)] at hcf
                      have HGO6 : Hid (w.heap.size ≤ go_ ∧ go_ < wr.heap.size) := Lib.hid (HR1.out.b.rg go_ (bl_own rfl))
                      have HGX6 : Hid (gx ≠ go_) := Lib.hid fun e => HR6.out (by rw [e]; exact bl_own rfl)
                      have HFZ6 : Hid (wr.frozen? ⟨go_, k, none⟩ = false) := Lib.hid (HR1.out.b.frozen k)
                      have HCQ6 : Hid (wr.cell? ⟨go_, k, none⟩ = some (.slice (some ⟨gk, 0, none⟩) N ck)) := Lib.hid h1
                      unfold maxLen at b4
                      have hy := HFX.out
                      have HRED : Hid (redR c fx (rw_ LO k) = subR (rw_ LO k) (floorW (cl (rw_ LO k) c) (cl fx c)) fx) := Lib.hid rfl
                      clear hat6 hv1 hfN
                      generalize redR c fx (rw_ LO k) = DN at *
                      generalize rw_ LO k = d at *
                      generalize cl d c = x6 at *
                      generalize cl fx c = y6 at *
                      have HFLO : Hid (∀ W : World, Calls Try.prog 33 #[.int .i64 x6, .int .i64 y6] W fun e w' => e = .returned (.int .i64 (floorW x6 y6)) ∧ W = w') := Lib.hid fun W => l27Floor_any x6 y6 W hy
                      generalize floorW x6 y6 = q6 at *
                      go_wp2_with fail
                      have fA := BelW.cell h2 b2
                      have fB := BelW.cell hcf HR5.out
                      have fD := BelW.cell h1 HGO6.out.2
                      (refine wp_region_call3e 17 (by kernel_rfl) (by kernel_rfl) (by kernel_rfl) (by kernel_rfl) (by kernel_rfl) (by kernel_rfl) (by kernel_rfl) (by kernel_rfl) (by kernel_rfl) (by kernel_rfl) (by kernel_rfl) (by rfl) (by rfl) (.inl ⟨by rfl, fun ww => by (go_simp; rfl)⟩) (.inl ⟨by rfl, fun ww => by (go_simp; rfl)⟩) ?_; dsimp only [dum3, dumO]; simp only [Act.put, List.setIfInBounds_toArray, List.set_cons_zero, List.set_cons_succ]; (repeat (go_big_quiet_step ((go_at_call 33; exact Calls.bel_same (HFLO.out _))))); refine wpQuiet_nil ?_; refine ⟨⟨_, fun ww => by (go_simp; rfl)⟩, ?_⟩; intro wv hw'; obtain ⟨pq, hw''⟩ := hw'; have bv := pq.h; rw [← hw''] at bv; clear hw'' pq; refine ⟨_, _, by rfl, ?_⟩)
                      have HV := Lib.hid bv
                      clear bv fA fB fD h1 h2 hcf
                      simp only [List.map_toArray, List.map_cons, List.map_nil, Array.empty_append, Array.append_empty]
                      refine (show Calls Try.prog 24 #[.slice (some ⟨gk, 0, none⟩) N ck, .slice (some ⟨gx, 0, none⟩) N cx, .int .i64 q6] wv _ from ?_)
                      refine (l27Less_any _ _ d fx q6 wv (HOK.out.below HV.out).rd (HR3.out.below HV.out).rd (by rw [HDN.out, HFN.out]; exact Nat.le_refl _) (by rw [HDN.out]; omega)).mono ?_
                      rintro e w5 ⟨r5, rfl, o5, b5⟩
                      rw [← HRED.out] at o5
                      have HB5 : Hid (Below wr.heap.size wr w5) := Lib.hid (HV.out.trans (b5.mono HV.out.size))
                      have qx := (HB5.out.cell (p := ⟨go_, k, none⟩) HGO6.out.2).trans HCQ6.out
                      have qf := (HB5.out.frozen (p := ⟨go_, k, none⟩) HGO6.out.2).trans HFZ6.out
                      have HH5 : Hid (HH w.heap.size (w5.setCell ⟨go_, k, none⟩ r5) (.slice A9 rowsE.length c9) hLE rowsE (.slice (some ⟨go_, 0, none⟩) LO.length co) (hO'.set k r5) ((LO.take (k + 1)).map (redR c fx) ++ LO.drop (k + 1))) := Lib.hid (by
                        have := HR1.out.store2 (i := k) (by rw [HL6.out]; exact hlt6) HB5.out HR4.out.size (o5.mono HV.out.size)
                        rw [HST6.out] at this
                        exact this)
                      have HB6 : Hid (Below w.heap.size w (w5.setCell ⟨go_, k, none⟩ r5)) := Lib.hid ((HR4.out.trans (HB5.out.mono HR4.out.size)).setCell HGO6.out.1 _)
                      have HS3 : Hid (OwI (w5.setCell ⟨go_, k, none⟩ r5) 0 (.slice (some ⟨gx, 0, none⟩) N cx) fx) := Lib.hid ((HR3.out.below HB5.out).keep0 fun b hb => by
                        simp [Value.ownBlock] at hb
                        subst hb
                        exact Below.heap_setCell _ _ _ _ HGX6.out)
                      have HS4 : Hid (gx < (w5.setCell ⟨go_, k, none⟩ r5).heap.size) := Lib.hid (by have e : (w5.setCell ⟨go_, k, none⟩ r5).heap.size = w5.heap.size := by simp
                                                                                                    have := HR5.out; have := HB5.out.size; omega)
                      have HS5 : Hid (gx ∉ bl (.slice (some ⟨go_, 0, none⟩) LO.length co) (hO'.set k r5)) := Lib.hid fun hm => by
                        rcases bl_set (by rw [HR1.out.b.len, HL6.out]; exact hlt6) hm with h | h
                        · exact HR6.out h
                        · have := (o5.1.lt gx h).1
                          have := HR5.out
                          have := HV.out.size
                          omega
                      obtain ⟨A5, c5, rfl, _⟩ := o5.form
                      clear o5 b5
                      refine ⟨_, rfl, ?_⟩
                      simp only [Act.put, List.setIfInBounds_toArray, List.set_cons_zero, List.set_cons_succ]
                      go_wp2
                      refine NoPanic.normal ?_
                      go_wp2
                      go_roundw
                      case rel => exact ⟨k + 1, _, by omega, by go_num, HH5.out, HS3.out, HB6.out, HS4.out, HS5.out⟩
                      case measure => simp [intOf]; omega
                    · obtain rfl : k = LO.length := by omega
                      have hfin : (LO.take LO.length).map (redR c fx) ++ LO.drop LO.length = LO.map (redR c fx) := by rw [List.take_length, List.drop_length, List.append_nil]
                      rw [hfin] at HR1
                      clear hfin
                      have HWA : Hid (Below wr.heap.size wr (wr.alloc (.cells #[.slice (some ⟨gx, 0, none⟩) N cx] 27))) := Lib.hid ((Below.refl _ _).alloc (Nat.le_refl _) _)
                      have HROW := Lib.hid (HR1.out.b.below HWA.out)
                      have hol : hO'.length = LO.length := by rw [HR1.out.b.len, List.length_map]
                      have HOL := Lib.hid hol
                      have hol3 : hO'.length ≤ 3 := by omega
                      clear hol
                      go_wp2_with (at_builtin; refine append_hdrs rfl (.tmp 177) (.tmp 179) rfl _ hO' HROW.out.row (by rfl) ⟨wr.heap.size, 0, none⟩ 1 1 [.slice (some ⟨gx, 0, none⟩) N cx] rfl (cell_one_new _ _ _) (fun u hu => by simp at hu; subst hu; rfl) (by rfl) (by simp; omega) ?_; intro v8 w8 o8 g8 p8)
                      have hwsz : (wr.alloc (.cells #[.slice (some ⟨gx, 0, none⟩) N cx] 27)).heap.size = wr.heap.size + 1 := by simp
                      have hw4 := HR4.out.size
                      have HPU : Hid (HB w.heap.size w8 v8 (hO' ++ [.slice (some ⟨gx, 0, none⟩) N cx]) (LO.map (redR c fx) ++ [fx])) := Lib.hid (HROW.out.pushH (f := .slice (some ⟨gx, 0, none⟩) N cx) (r := fx) (by simpa using o8) g8 p8 (by rw [hwsz]; omega) (HR3.out.below HWA.out) fun b hb => by
                        simp [Value.ownBlock] at hb
                        subst hb
                        exact ⟨HGF9.out, by have := HR5.out; omega, HR6.out⟩)
                      have HLE8 : Hid (HB w.heap.size w8 (.slice A9 rowsE.length c9) hLE rowsE) := Lib.hid ((HR1.out.a.below HWA.out).grown g8 fun b hb hm => HR1.out.ap b hm (bl_own hb))
                      have HB8 : Hid (Below w.heap.size w w8) := Lib.hid ((HR4.out.trans (HWA.out.mono hw4)).grown g8 (by rw [hwsz]; omega) fun b hb => (HR1.out.b.rg b (bl_own hb)).1)
                      have HAP8 : Hid (∀ x ∈ bl (.slice A9 rowsE.length c9) hLE, x ∉ bl v8 (hO' ++ [.slice (some ⟨gx, 0, none⟩) N cx])) := Lib.hid fun x hx hm => by
                        have hxs := (HR1.out.a.rg x hx).2
                        rcases bl_push (v := .slice Ao LO.length co) hm with h | h | h
                        · rcases p8 with e | e
                          · rw [e] at h; exact HR1.out.ap x hx (bl_own h)
                          · rw [e] at h; injection h with h; rw [hwsz] at h; omega
                        · exact HR1.out.ap x hx h
                        · simp [Value.ownBlock] at h; exact HG1.out (by rw [h]; exact hx)
                      have HS9 : Hid (hermS L (c + 1) = (rowsE, LO.map (redR c fx) ++ [fx])) := HPF
                      clear o8 g8 p8 hwsz
                      go_wp2
                      go_roundw
                      all_goals first
                        | exact ⟨⟨c + 1, hLE, hO' ++ [.slice (some ⟨gx, 0, none⟩) N cx], by omega, by go_num, by rw [HS9.out]; exact ⟨HLE8.out, HPU.out, HAP8.out⟩, HB8.out⟩, by simp [intOf]; omega⟩
                        | exact ⟨c + 1, hLE, hO' ++ [.slice (some ⟨gx, 0, none⟩) N cx], by omega, by go_num, by rw [HS9.out]; exact ⟨HLE8.out, HPU.out, HAP8.out⟩, HB8.out⟩
                        | (simp [intOf]; omega)
    · obtain rfl : c = N := by omega
      have FO := Lib.hid HW.out.b.owII
      clear HW
      go_wp2
      go_ret
      exact ⟨_, rfl, by rw [F.out]; exact FO.out, HBW.out⟩
end Go.Proofs.Ytnnckojpmnpgbaa
