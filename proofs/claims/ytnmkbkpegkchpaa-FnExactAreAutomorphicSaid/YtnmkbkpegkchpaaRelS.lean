/- The reference's AllRelabellings. -/
import Derived.Test.YtnmkbkpegkchpaaRelI
import Derived.Test.YtnmkbkpegkchpaaTakW
namespace Go.Proofs.Ytnmkbkpegkchpaa
set_option maxRecDepth 20000
set_option linter.unusedVariables false
set_option linter.unusedSimpArgs false
open Go.RowKit
theorem OwnL.any {α : Type} {E : El α} {t : TypeId} {width : Nat} {w : World} {v : Value} {ds : List α} {lo hi : Nat} (h : OwnL E t width lo hi w v ds) : ∃ A m cap, v = .slice A m cap := by
  obtain ⟨A, cap, hv, _⟩ := h.len
  exact ⟨A, _, cap, hv⟩
theorem OwI.any {w : World} {base : Nat} {v : Value} {xs : List Int} (h : OwI w base v xs) : ∃ A m cap, v = .slice A m cap := by
  obtain ⟨A, cap, hv, _⟩ := h.form
  exact ⟨A, _, cap, hv⟩
theorem OwII_one {w : World} {base lo : Nat} {z : Value} {d : List Int} (h : OwI w base z d) (hb : lo ≤ base) (hl : base ≤ w.heap.size) : OwII lo (w.heap.size + 1) (.slice (some ⟨w.heap.size, 0, none⟩) 1 1) [d] (w.alloc (.cells #[z] 27)) := by
  refine ⟨w.heap.size :: z.ownBlock.toList, ⟨[([z], d, z.ownBlock.toList)], rfl, fun e he => ?_, ?_, by simp [Value.ownBlock]⟩, ?_, fun b hb' => ?_⟩
  · simp at he; subst he
    exact ⟨rfl, EI.of (h.alloc _)⟩
  · have := rows_lit w [z] (by simp) (Nat.zero_le _)
    simpa using this
  · refine List.nodup_cons.2 ⟨fun hm => ?_, by cases z.ownBlock <;> simp⟩
    have := h.1.lt w.heap.size (by simpa using hm)
    omega
  · rcases List.mem_cons.1 hb' with rfl | hm
    · omega
    · have := h.1.lt b (by simpa using hm)
      omega
theorem rlL_len (ls : List Int) (h6 : ls.length ≤ 6) : ∀ n, (rlL ls n).length ≤ 6 ^ n
  | 0 => by simp [rlL]
  | n + 1 => by
    have h := flat_le (rlL ls n) (rxL ls) 6 fun x _ => Nat.le_trans (rxL_len ls x) h6
    have h2 := rlL_len ls h6 n
    have h3 : (rlL ls n).length * 6 ≤ 6 ^ n * 6 := Nat.mul_le_mul_right _ h2
    have e : rlL ls (n + 1) = (rlL ls n).flatMap (rxL ls) := rfl
    rw [e, Nat.pow_succ]
    omega
theorem rx_two (l : List Int) (m : Nat) : ((lettersL (m + 1)).filter (rxOk l)).map (fun x => l ++ [x]) = ((lettersL m).filter (rxOk l)).map (fun x => l ++ [x]) ++ (if rxOk l ((m : Int) + 1) then [l ++ [(m : Int) + 1], l ++ [-((m : Int) + 1)]] else []) := by
  have e : lettersL (m + 1) = lettersL m ++ [(m : Int) + 1, -((m : Int) + 1)] := rfl
  have e2 : rxOk l (-((m : Int) + 1)) = rxOk l ((m : Int) + 1) := by unfold rxOk; rw [Int.neg_neg, Bool.and_comm]
  rw [e, List.filter_append, List.map_append]
  congr 1
  rcases h : rxOk l ((m : Int) + 1) with _ | _
  · simp [h, e2]
  · simp [h, e2]
theorem rx_flat (ls : List Int) (L : List (List Int)) (q : Nat) (h : q < L.length) : (L.take (q + 1)).flatMap (rxL ls) = (L.take q).flatMap (rxL ls) ++ rxL ls L[q] := by
  rw [List.take_succ_eq_append_getElem h, List.flatMap_append]
  simp
theorem rx_room (n m q : Nat) (hm : m ≤ n) (hn : n ≤ 3) (l : List Int) (L : List (List Int)) (hq : q ≤ 216) : ((L.take q).flatMap (rxL (lettersL n)) ++ ((lettersL m).filter (rxOk l)).map (fun x => l ++ [x])).length ≤ 1302 := by
  have h1 := flat_le (L.take q) (rxL (lettersL n)) 6 fun x _ => by have := rxL_len (lettersL n) x; rw [lettersL_len] at this; omega
  have h2 : (((lettersL m).filter (rxOk l)).map (fun x => l ++ [x])).length ≤ 6 := by
    rw [List.length_map]
    have := List.length_filter_le (rxOk l) (lettersL m)
    rw [lettersL_len] at this
    omega
  rw [List.length_append]
  rw [List.length_take] at h1
  have h3 : min q L.length * 6 ≤ 216 * 6 := Nat.mul_le_mul_right _ (by omega)
  omega
theorem wrapneg3 {y : Int} (h1 : -3 ≤ y) (h2 : y ≤ 3) : IntKind.i64.wrap (-y) = -y := by rw [IntKind.wrap_i64]; omega
set_option maxRecDepth 100000 in
set_option maxHeartbeats 2000000 in
theorem specAllRelabellings_any (r : Int) (w : World) (hr : I64 r) :
    Calls Try.prog 7 #[.int .i64 r] w fun e w' => ∃ v, e = .returned v ∧ OMS w.heap.size w'.heap.size v (relF r) w' ∧ Below w.heap.size w w' := by
  rcases e1 : inB r 1 3 with _ | _
  · have F : Hid (relF r = []) := Lib.hid (by unfold relF; rw [e1]; rfl)
    have CI := Lib.hid fun w => l1In_any r 1 3 w
    rw [e1] at CI
    go_enter Try.func7, Try.ntmps7
    go_wp2_with (go_at_call 25; refine (CI.out _).mono ?_; rintro e w' ⟨rfl, rfl⟩)
    refine bodyPost_ret (v := .slice (some ⟨w.heap.size, 0, none⟩) 0 0) (by simp [results, Try.results7, go_sem]) rfl ⟨_, rfl, ?_, (by repeat (first | exact Below.refl _ _ | (refine Below.setCell ?_ (by first | omega | (simp <;> omega)) _) | (refine bel_drewN ?_ _) | (refine Below.drew ?_) | (refine Below.alloc ?_ (by first | omega | (simp <;> omega)) _)))⟩
    rw [F.out]
    have := OMS_lit w (Nat.le_refl w.heap.size)
    simpa using this
  · have hr1 := (inB_iff.1 e1).1
    have hr3 := (inB_iff.1 e1).2
    obtain ⟨n, rfl⟩ : ∃ n : Nat, r = n := ⟨r.toNat, by omega⟩
    have F : Hid (relF n = (rlL (lettersL n) n).map (relM n)) := Lib.hid (by unfold relF; rw [e1]; simp)
    have hn : n ≤ 3 := by omega
    have hl6 : (lettersL n).length ≤ 6 := by rw [lettersL_len]; omega
    have HRL6 : Hid (∀ k, k ≤ n → (rlL (lettersL n) k).length ≤ 216) := Lib.hid fun k hk => by
      have h1 := rlL_len (lettersL n) hl6 k
      have h2 : 6 ^ k ≤ 6 ^ 3 := Nat.pow_le_pow_right (by omega) (by omega)
      omega
    have CI := Lib.hid fun w => l1In_any n 1 3 w
    rw [e1] at CI
    obtain ⟨W1, hW1⟩ : ∃ W : World, W = ((w.alloc (Obj.cells #[] 45)).alloc (Obj.cells #[] 3)).alloc (Obj.cells #[.slice (some ⟨w.heap.size + 1, 0, none⟩) 0 0] 27) := ⟨_, rfl⟩
    have hs1 : W1.heap.size = w.heap.size + 3 := by rw [hW1]; simp
    have HB1 : Hid (Below w.heap.size w W1) := Lib.hid (by rw [hW1]; exact (by repeat (first | exact Below.refl _ _ | (refine Below.setCell ?_ (by first | omega | (simp <;> omega)) _) | (refine bel_drewN ?_ _) | (refine Below.drew ?_) | (refine Below.alloc ?_ (by first | omega | (simp <;> omega)) _))))
    have HO1 : Hid (OwII (w.heap.size + 1) W1.heap.size (.slice (some ⟨w.heap.size + 2, 0, none⟩) 1 1) [[]] W1) := Lib.hid (by
      have h := OwII_one (w := (w.alloc (Obj.cells #[] 45)).alloc (Obj.cells #[] 3)) (lo := w.heap.size + 1) (OwI_litN (w.alloc (Obj.cells #[] 45)) [] (w.heap.size + 1) (by simp) I64s_nil (by simp) (Nat.le_refl _)) (Nat.le_refl _) (by simp)
      rw [hs1, hW1]
      simpa using h)
    have HOR : Hid (W1.ownsRow 0 45 2 (.slice (some ⟨w.heap.size, 0, none⟩) 0 0) 0 []) := Lib.hid (by
      have h0 := World.ownsRow_lit (e := 45) (size := 2) (base := 0) w #[] 0 (Nat.zero_le _) (by unfold maxLen; omega) (by simp)
      have h1 := (h0.alloc (Obj.cells #[] 3)).alloc (Obj.cells #[.slice (some ⟨w.heap.size + 1, 0, none⟩) 0 0] 27)
      rw [hW1]
      simpa using h1)
    have HW := Lib.hid hW1
    clear hW1 hr e1 hl6
    go_enter Try.func7, Try.ntmps7
    go_wp2_with (go_at_call 25; refine (CI.out _).mono ?_; rintro e w' ⟨rfl, rfl⟩)
    rw [← HW.out]
    go_loopw [4, 5] (fun ord i wr => ∃ k : Nat, k ≤ n ∧ i = .int .i64 k ∧ OwII (w.heap.size + 1) wr.heap.size ord (rlL (lettersL n) k) wr ∧ Below (w.heap.size + 1) W1 wr)
      (fun _ i _ => n - (intOf i).toNat)
    case atStart => exact ⟨0, Nat.zero_le _, rfl, HO1.out, Below.refl _ _⟩
    case round =>
      obtain ⟨k, hk, rfl, hO, hB⟩ := hrel
      have HO := Lib.hid hO
      have HB := Lib.hid hB
      have hsr := hB.size
      have hL := HRL6.out k hk
      have HRL : Hid (rlL (lettersL n) (k + 1) = (rlL (lettersL n) k).flatMap (rxL (lettersL n))) := Lib.hid rfl
      clear hO hB
      by_cases hlt : k < n
      · obtain ⟨wo, rfl⟩ : ∃ wo : World, wo = wr := ⟨_, rfl⟩
        have HEA : Hid (∀ l ∈ rlL (lettersL n) k, l.length ≤ 3) := Lib.hid fun l hl => by have := (rlL_each (lettersL n) k l hl).1; omega
        generalize hLk : rlL (lettersL n) k = L at *
        clear hLk
        obtain ⟨A0, cap0, rfl, _⟩ := HO.out.len
        have HRD := Lib.hid HO.out.rd
        go_wp2_with fail
        go_loopw [6, 7] (fun nx q wi => ∃ q' : Nat, q' ≤ L.length ∧ q = .int .i64 q' ∧ OwII wo.heap.size wi.heap.size nx ((L.take q').flatMap (rxL (lettersL n))) wi ∧ Below wo.heap.size wo wi)
          (fun _ q _ => L.length - (intOf q).toNat)
        case atStart => exact ⟨0, Nat.zero_le _, rfl, by simpa using OwII_lit wo (Nat.le_refl _), (Below.refl _ _).alloc (Nat.le_refl _) _⟩
        case round =>
          obtain ⟨q', hq, rfl, hN, hBq⟩ := hrel
          have HN := Lib.hid hN
          have HBq := Lib.hid hBq
          obtain ⟨An, mn, cn, rfl⟩ := hN.any
          clear hN hBq
          by_cases hltq : q' < L.length
          · have HRX := Lib.hid (rx_flat (lettersL n) L q' hltq)
            have HRM := Lib.hid fun m hm => rx_room n m q' hm hn L[q'] L (by omega)
            obtain ⟨b, off, A3, cap3, rfl, hbl, hcl, hc3, hm3, hl⟩ := HRD.out.at hltq
            have HLD := Lib.hid hl
            have HXL : Hid (rxL (lettersL n) L[q'] = ((lettersL n).filter (rxOk L[q'])).map fun x => L[q'] ++ [x]) := Lib.hid rfl
            have hll3 : L[q'].length ≤ 3 := HEA.out _ (List.getElem_mem hltq)
            generalize (L.take q').flatMap (rxL (lettersL n)) = P at *
            generalize L[q'] = l at *
            clear hl
            go_wp2_with fail
            go_loopw [6, 8] (fun nx x wi => ∃ m : Nat, m ≤ n ∧ x = .int .i64 ((m : Int) + 1) ∧ OwII wo.heap.size wi.heap.size nx (P ++ ((lettersL m).filter (rxOk l)).map fun x => l ++ [x]) wi ∧ Below wo.heap.size wo wi)
              (fun _ x _ => n + 1 - (intOf x).toNat)
            case atStart => exact ⟨0, Nat.zero_le _, rfl, by simpa [lettersL] using HN.out, HBq.out⟩
            case round =>
              obtain ⟨m, hm, rfl, hN2, hB2⟩ := hrel
              obtain ⟨wj, rfl⟩ : ∃ wj : World, wj = wr := ⟨_, rfl⟩
              have HNj := Lib.hid hN2
              have HBj := Lib.hid hB2
              obtain ⟨Aj, mj, cj, rfl⟩ := hN2.any
              have hloa := hB2.size
              clear hN2 hB2
              by_cases hltm : m < n
              · have HLa := Lib.hid (HLD.out.below HBj.out)
                have hcl2 := (HBj.out.cell (p := ⟨b, off + q', none⟩) hbl).trans hcl
                have hcl3 : (wj.alloc (Obj.cells #[] 3)).cell? ⟨b, off + q', none⟩ = some (.slice A3 l.length cap3) := (World.cell?_alloc_past _ _ _ (Nat.lt_of_lt_of_le hbl hloa)).trans hcl2
                have HRM2 := HRM.out m hm
                have hlla : (P ++ ((lettersL m).filter (rxOk l)).map fun x => l ++ [x]).length ≤ 1073741824 := by omega
                have HTW := Lib.hid (rx_two l m)
                have HRK : Hid (rxOk l ((m : Int) + 1) = (!hasB l ((m : Int) + 1) && !hasB l (-((m : Int) + 1)))) := Lib.hid rfl
                have HXP : Hid (I64 ((m : Int) + 1)) := Lib.hid ⟨by omega, by omega⟩
                have HXN : Hid (I64 (-((m : Int) + 1))) := Lib.hid ⟨by omega, by omega⟩
                have hny := wrapneg3 (y := (m : Int) + 1) (by omega) (by omega)
                have HCP := fun W (h : ArgI W (.slice A3 l.length cap3) l) => l4Has_any _ l ((m : Int) + 1) W h (by omega)
                have HCN := fun W (h : ArgI W (.slice A3 l.length cap3) l) => l4Has_any _ l (-((m : Int) + 1)) W h (by omega)
                have hqI : (q' : Int) < (L.length : Int) := by omega
                generalize hQ : P ++ ((lettersL m).filter (rxOk l)).map (fun x => l ++ [x]) = Q0 at *
                have hllb : (Q0 ++ [l ++ [(m : Int) + 1]]).length ≤ 1073741824 := by rw [List.length_append, List.length_singleton]; omega
                have HQ := Lib.hid hQ
                clear hQ HRM2
                generalize hy : (m : Int) + 1 = y at *
                have HY : Hid (y = (m : Int) + 1) := Lib.hid hy.symm
                have hy1 : 1 ≤ y := by omega
                have hy3 : y ≤ n := by omega
                clear hy
                rcases e1 : hasB l y with _ | _
                · rcases e2 : hasB l (-y) with _ | _
                  · have HOK : Hid (rxOk l y = true) := Lib.hid (by rw [HRK.out, e1, e2]; rfl)
                    rw [e1] at HCP
                    rw [e2] at HCN
                    have CP := Lib.hid HCP
                    have CN := Lib.hid HCN
                    clear HCP HCN e1 e2 HRK
                    go_wp2_with (first
            | (go_at_call 26; (with_reducible refine (CP.out _ HLa.out.arg).mono ?_); rintro e w' ⟨rfl, rfl⟩)
            | (go_at_call 26; (with_reducible refine (CN.out _ HLa.out.arg).mono ?_); rintro e w' ⟨rfl, rfl⟩)
            | (at_builtin; refine append_ints rfl (.tmp 54) (.tmp 58) rfl wj.heap.size _ [] (OwI_lit wj [] I64s_nil (by simp) (Nat.le_refl _)) rfl _ l (HLa.out.alloc _) rfl (by simp; omega) (by simp) ?_; intro v1a w1a o1a g1a p1a; have O1a : Hid (OwI w1a wj.heap.size v1a l) := Lib.hid (by simpa using o1a); have B1a : Hid (Below wj.heap.size wj w1a) := Lib.hid (((Below.refl _ _).alloc (Nat.le_refl _) _).grown g1a (by simp) (fun k hk => by simp [Value.ownBlock] at hk; omega)); have z1a := B1a.out.size; obtain ⟨A1a, c1a, rfl, _⟩ := OwI.form O1a.out; clear o1a g1a p1a)
            | ((at_builtin; refine push_int rfl (.tmp 59) (.tmp 61) rfl _ _ _ (OwI.alloc O1a.out _) rfl _ _ rfl (cell_new1 _ _ _) HXP.out (by first | omega | (simp <;> omega)) (by first | omega | (simp <;> omega)) ?_; intro v2a wv2a o2a g2a p2a); have B2a := Lib.hid (bel_push B1a.out z1a O1a.out.1 (Nat.le_refl _) g2a); have z2a := B2a.out.size; have O2a := Lib.hid o2a; obtain ⟨A2a, m2a, c2a, rfl⟩ := o2a.any; clear o2a g2a p2a)
            | (at_builtin; refine push_ints rfl (.tmp 53) (.tmp 63) rfl (w0 := wj) HNj.out hloa (B2a.out.alloc z2a _) rfl _ _ _ rfl (O2a.out.alloc _) (Nat.le_refl _) (cell_new1 _ _ _) rfl hlla ?_; intro vza wza oza gza; have OZa := Lib.hid oza; have BZa : Hid (Below wo.heap.size wo wza) := Lib.hid (bel_own ((HBj.out.trans (B2a.out.mono hloa)).alloc (Nat.le_trans hloa z2a) _) HNj.out (Nat.le_refl _) (by have := hloa; simp; omega) gza); obtain ⟨Aza, mza, cza, rfl⟩ := oza.any; clear oza gza; have hlob := BZa.out.size; have HLb := Lib.hid (HLD.out.below BZa.out); have qb := (BZa.out.cell (p := ⟨b, off + q', none⟩) hbl).trans hcl; have qb2 : (wza.alloc (Obj.cells #[] 3)).cell? ⟨b, off + q', none⟩ = some (.slice A3 l.length cap3) := (World.cell?_alloc_past _ _ _ (Nat.lt_of_lt_of_le hbl hlob)).trans qb)
            | (at_builtin; refine append_ints rfl (.tmp 66) (.tmp 70) rfl wza.heap.size _ [] (OwI_lit wza [] I64s_nil (by simp) (Nat.le_refl _)) rfl _ l (HLb.out.alloc _) rfl (by simp; omega) (by simp) ?_; intro v1b w1b o1b g1b p1b; have O1b : Hid (OwI w1b wza.heap.size v1b l) := Lib.hid (by simpa using o1b); have B1b : Hid (Below wza.heap.size wza w1b) := Lib.hid (((Below.refl _ _).alloc (Nat.le_refl _) _).grown g1b (by simp) (fun k hk => by simp [Value.ownBlock] at hk; omega)); have z1b := B1b.out.size; obtain ⟨A1b, c1b, rfl, _⟩ := OwI.form O1b.out; clear o1b g1b p1b)
            | ((at_builtin; refine push_int rfl (.tmp 71) (.tmp 74) rfl _ _ _ (OwI.alloc O1b.out _) rfl _ _ rfl (cell_new1 _ _ _) HXN.out (by first | omega | (simp <;> omega)) (by first | omega | (simp <;> omega)) ?_; intro v2b wv2b o2b g2b p2b); have B2b := Lib.hid (bel_push B1b.out z1b O1b.out.1 (Nat.le_refl _) g2b); have z2b := B2b.out.size; have O2b := Lib.hid o2b; obtain ⟨A2b, m2b, c2b, rfl⟩ := o2b.any; clear o2b g2b p2b)
            | (at_builtin; refine push_ints rfl (.tmp 65) (.tmp 76) rfl (w0 := wza) OZa.out hlob (B2b.out.alloc z2b _) rfl _ _ _ rfl (O2b.out.alloc _) (Nat.le_refl _) (cell_new1 _ _ _) rfl hllb ?_; intro vzb wzb ozb gzb; have OZb := Lib.hid ozb; have BZb : Hid (Below wo.heap.size wo wzb) := Lib.hid (bel_own ((BZa.out.trans (B2b.out.mono hlob)).alloc (Nat.le_trans hlob z2b) _) OZa.out (Nat.le_refl _) (by have := hlob; simp; omega) gzb); obtain ⟨Azb, mzb, czb, rfl⟩ := ozb.any; clear ozb gzb))
                    go_roundw
                    case rel =>
                      refine ⟨m + 1, by omega, by rw [HY.out]; go_num, ?_, BZb.out⟩
                      have h := OZb.out
                      rw [HTW.out, HOK.out, if_pos rfl, ← List.append_assoc, HQ.out]
                      simpa using h
                    case measure => (have := HY.out; first | omega | (simp [intOf]; omega))
                  · have HNO : Hid (rxOk l y = false) := Lib.hid (by rw [HRK.out, e1, e2]; rfl)
                    rw [e1] at HCP
                    rw [e2] at HCN
                    have CP := Lib.hid HCP
                    have CN := Lib.hid HCN
                    clear HCP HCN e1 e2 HRK
                    go_wp2_with (first
                      | (go_at_call 26; (with_reducible refine (CP.out _ HLa.out.arg).mono ?_); rintro e w' ⟨rfl, rfl⟩)
                      | (go_at_call 26; (with_reducible refine (CN.out _ HLa.out.arg).mono ?_); rintro e w' ⟨rfl, rfl⟩))
                    go_roundw
                    case rel => exact ⟨m + 1, by omega, by rw [HY.out]; go_num, by rw [HTW.out, HNO.out, if_neg (by decide), List.append_nil, HQ.out]; exact HNj.out, HBj.out⟩
                    case measure => (have := HY.out; first | omega | (simp [intOf]; omega))
                · have HNO : Hid (rxOk l y = false) := Lib.hid (by rw [HRK.out, e1]; rfl)
                  rw [e1] at HCP
                  have CP := Lib.hid HCP
                  clear HCP HCN e1 HRK
                  go_wp2_with (go_at_call 26; (with_reducible refine (CP.out _ HLa.out.arg).mono ?_); rintro e w' ⟨rfl, rfl⟩)
                  go_roundw
                  case rel => exact ⟨m + 1, by omega, by rw [HY.out]; go_num, by rw [HTW.out, HNO.out, if_neg (by decide), List.append_nil, HQ.out]; exact HNj.out, HBj.out⟩
                  case measure => (have := HY.out; first | omega | (simp [intOf]; omega))
              · obtain rfl : m = n := by omega
                have HN3 : Hid (OwII wo.heap.size wj.heap.size (.slice Aj mj cj) ((L.take (q' + 1)).flatMap (rxL (lettersL m))) wj) := Lib.hid (by rw [HRX.out, HXL.out]; exact HNj.out)
                clear HNj
                go_wp2
                go_roundw
                case rel => exact ⟨q' + 1, by omega, by go_num, HN3.out, HBj.out⟩
                case measure => (first | omega | (simp [intOf]; omega))
          · obtain rfl : q' = L.length := by omega
            have HN3 : Hid (OwII wo.heap.size wr.heap.size (.slice An mn cn) (rlL (lettersL n) (k + 1)) wr) := Lib.hid (by rw [HRL.out]; have h := HN.out; rw [List.take_length] at h; exact h)
            clear HN
            go_wp2
            go_roundw
            case rel => exact ⟨k + 1, by omega, by go_num, HN3.out.widen (by omega) (Nat.le_refl _), HB.out.trans (HBq.out.mono (by omega))⟩
            case measure => (first | omega | (simp [intOf]; omega))
      · obtain rfl : k = n := by omega
        obtain ⟨W5, rfl⟩ : ∃ W : World, W = wr := ⟨_, rfl⟩
        have HEA : Hid (∀ l ∈ rlL (lettersL k) k, l.length = k ∧ I64s l) := Lib.hid fun l hl => by
          obtain ⟨h1, h2⟩ := rlL_each (lettersL k) k l hl
          exact ⟨h1, fun x hx => lettersL_I64 (n := k) (by omega) x (h2 x hx)⟩
        generalize hLk : rlL (lettersL k) k = L at *
        clear hLk
        obtain ⟨A0, cap0, rfl, _⟩ := HO.out.len
        have HOUT0 : Hid (OwLf EM 45 2 W5 (.slice (some ⟨w.heap.size, 0, none⟩) 0 0) [] [w.heap.size]) := Lib.hid ⟨[], rfl, (fun e he => by cases he), by simpa using ownsRow_keep HOR.out fun b hb => by simp [Value.ownBlock] at hb; subst hb; exact HB.out.block _ (by omega), by simp [Value.ownBlock]⟩
        have hwr5 : w.heap.size < W5.heap.size := by omega
        go_wp2_with fail
        go_loopw [3, 9] (fun out q wi => ∃ q' : Nat, q' ≤ L.length ∧ q = .int .i64 q' ∧ ∃ F', OwLf EM 45 2 wi out ((L.take q').map (relM k)) F' ∧ F'.Nodup ∧ (∀ b ∈ F', (b = w.heap.size ∨ W5.heap.size ≤ b) ∧ b < wi.heap.size) ∧ FrF w.heap.size [] W5 wi)
          (fun _ q _ => L.length - (intOf q).toNat)
        case atStart => exact ⟨0, Nat.zero_le _, rfl, [w.heap.size], by simpa using HOUT0.out, by simp, (fun b hb => by rw [List.mem_singleton] at hb; subst hb; exact ⟨.inl rfl, hwr5⟩), FrF.refl _ _ _⟩
        case round =>
          obtain ⟨q', hq, rfl, F1, l1, l2, l3, f1⟩ := hrel
          have HL1 := Lib.hid l1
          have HL2 := Lib.hid l2
          have HL3 := Lib.hid l3
          have HF1 := Lib.hid f1
          obtain ⟨Ao, mo, co, rfl⟩ := l1.form
          have hsw := f1.size
          clear l1 l2 l3 f1
          by_cases hltq : q' < L.length
          · obtain ⟨wi, rfl⟩ : ∃ wi : World, wi = wr := ⟨_, rfl⟩
            have HRW : Hid (RdII wi (.slice A0 L.length cap0) L) := Lib.hid (OwII.rd (HO.out.keep EI.stable fun b h1 h2 => HF1.out.block b h2 (by omega) (by simp)))
            have HTK : Hid ((L.take (q' + 1)).map (relM k) = (L.take q').map (relM k) ++ [relM k L[q']]) := Lib.hid (by rw [List.take_succ_eq_append_getElem hltq, List.map_append]; rfl)
            have hlo : L[q'].length = k := (HEA.out _ (List.getElem_mem hltq)).1
            have HIO := Lib.hid (HEA.out _ (List.getElem_mem hltq)).2
            have hTL : ((L.take q').map (relM k)).length ≤ 1073741824 := by rw [List.length_map, List.length_take]; omega
            generalize hQ : (L.take q').map (relM k) = Q0 at *
            clear hQ
            have HLO := Lib.hid hlo
            have hol : L[q'].length ≤ 3 := by omega
            have HRA : Hid (∀ W, RdII W (.slice A0 L.length cap0) L → ∃ b off A1 cap1, A0 = some ⟨b, off, none⟩ ∧ b < W.heap.size ∧ W.cell? ⟨b, off + q', none⟩ = some (.slice A1 L[q'].length cap1) ∧ RdI W (.slice A1 L[q'].length cap1) L[q']) := Lib.hid fun W h => by
              obtain ⟨b, off, A1, cap1, h1, h2, h3, _, _, h6⟩ := h.at hltq
              exact ⟨b, off, A1, cap1, h1, h2, h3, h6⟩
            obtain ⟨b, off, A3, cap3, rfl, hbl, hcl, hl⟩ := HRA.out _ HRW.out
            have HLD := Lib.hid hl
            generalize L[q'] = o at *
            clear hl hlo HRA
            have hqI : (q' : Int) < (L.length : Int) := by omega
            go_wp2_with fail
            go_loopw [11] (fun i wj => ∃ m : Nat, m ≤ o.length ∧ i = .int .i64 m ∧ ∃ s : Value, wj.cell? ⟨wi.heap.size, 0, none⟩ = some (.int .i64 k) ∧ wj.cell? ⟨wi.heap.size, 1, none⟩ = some s ∧ (∀ o, wj.frozen? ⟨wi.heap.size, o, none⟩ = false) ∧ OwII (wi.heap.size + 1) wj.heap.size s ((o.take m).map fun x => [x]) wj ∧ Below wi.heap.size wi wj ∧ wi.heap.size < wj.heap.size)
              (fun i _ => o.length - (intOf i).toNat)
            case atStart => refine ⟨0, Nat.zero_le _, rfl, .slice none 0 0, by simp [go_sem], by simp [go_sem], by simp [go_sem], OwII_none _ _ _, (by repeat (first | exact Below.refl _ _ | (refine Below.setCell ?_ (by first | omega | (simp <;> omega)) _) | (refine bel_drewN ?_ _) | (refine Below.drew ?_) | (refine Below.alloc ?_ (by first | omega | (simp <;> omega)) _))), by simp⟩
            case round =>
              obtain ⟨m, hm, rfl, s, h0, h1, hf, hs, hb5, hg5⟩ := hrel
              obtain ⟨wj, rfl⟩ : ∃ wj : World, wj = wr := ⟨_, rfl⟩
              have HB5 := Lib.hid hb5
              have HO5 := Lib.hid hs
              obtain ⟨A5, m5, cap5, rfl⟩ := hs.any
              have hszj := hb5.size
              by_cases hltm : m < o.length
              · have hkI : (m : Int) < (k : Int) := by have := HLO.out; omega
                have hmI : (m : Int) < (o.length : Int) := by omega
                have hcl2 := (hb5.cell (p := ⟨b, off + q', none⟩) hbl).trans hcl
                obtain ⟨b3, off3, rfl, hb3i, hc3⟩ := HLD.out.at (by omega)
                have hc4 := (hb5.cell (p := ⟨b3, off3 + m, none⟩) hb3i).trans (hc3 m hltm)
                have hb3 : b3 < wj.heap.size := by omega
                have HX : Hid (I64 o[m]) := Lib.hid (HIO.out _ (List.getElem_mem hltm))
                have HT : Hid ((o.take (m + 1)).map (fun x => [x]) = (o.take m).map (fun x => [x]) ++ [[o[m]]]) := Lib.hid (by rw [List.take_succ_eq_append_getElem hltm, List.map_append]; rfl)
                have hll : ((o.take m).map fun x => [x]).length ≤ 1073741824 := by rw [List.length_map, List.length_take]; omega
                obtain ⟨Fs, y1, y2, y3⟩ := hs
                have HFS := Lib.hid y3
                have HY1 := Lib.hid y1
                have HY2 := Lib.hid y2
                clear hc3 hb5 y1 y2 y3
                generalize o[m] = x at *
                generalize (o.take m).map (fun x => [x]) = L0 at *
                have hbj : b < wj.heap.size := by omega
                have b9 : Below wj.heap.size wj ((wj.alloc (Obj.cells #[Value.int IntKind.i64 x] 3)).drew) := (by repeat (first | exact Below.refl _ _ | (refine Below.setCell ?_ (by first | omega | (simp <;> omega)) _) | (refine bel_drewN ?_ _) | (refine Below.drew ?_) | (refine Below.alloc ?_ (by first | omega | (simp <;> omega)) _)))
                have b10 : Below wj.heap.size wj (((wj.alloc (Obj.cells #[Value.int IntKind.i64 x] 3)).alloc (Obj.cells #[.slice (some ⟨wj.heap.size, 0, none⟩) 1 1] 27)).drew) := (by repeat (first | exact Below.refl _ _ | (refine Below.setCell ?_ (by first | omega | (simp <;> omega)) _) | (refine bel_drewN ?_ _) | (refine Below.drew ?_) | (refine Below.alloc ?_ (by first | omega | (simp <;> omega)) _)))
                have HB9 := Lib.hid b9
                have HB10 := Lib.hid b10
                have HOX : Hid (OwI ((wj.alloc (.cells #[.int .i64 x] 3))) wj.heap.size (.slice (some ⟨wj.heap.size, 0, none⟩) 1 1) [x]) := Lib.hid (OwI_lit wj [x] (by intro y hy; simp at hy; subst hy; exact HX.out) (by simp) (Nat.le_refl _))
                have HOX2 : Hid (OwI (((wj.alloc (.cells #[.int .i64 x] 3)).alloc (Obj.cells #[.slice (some ⟨wj.heap.size, 0, none⟩) 1 1] 27)).drew) wj.heap.size (.slice (some ⟨wj.heap.size, 0, none⟩) 1 1) [x]) := Lib.hid (HOX.out.alloc _).drew
                have HCN : Hid ((((wj.alloc (.cells #[.int .i64 x] 3)).alloc (.cells #[.slice (some ⟨wj.heap.size, 0, none⟩) 1 1] 27)).drew).cell? ⟨wj.heap.size + 1, 0, none⟩ = some (.slice (some ⟨wj.heap.size, 0, none⟩) 1 1)) := Lib.hid (by simp [go_sem])
                clear b9 b10
                go_wp2_with fail
                refine wp_region_T' (n := 13) (S := fun w' => w'.cell? ⟨wi.heap.size, 1, none⟩ = some (.slice A5 m5 cap5) ∧ w'.cell? ⟨b, off + q', none⟩ = some (.slice (some ⟨b3, off3, none⟩) o.length cap3) ∧ w'.cell? ⟨b3, off3 + m, none⟩ = some (.int .i64 x)) (by kernel_rfl) (by rfl) ⟨h1, hcl2, hc4⟩ (fun hHeld => ?_)
                (refine wpAnyT_take (n := 13) (i := 0) (v := ?_) rfl (by kernel_rfl) rfl (by decide) (by kernel_rfl) (by kernel_rfl) (by kernel_rfl) (by kernel_rfl) (fun _ _ _ h => h) (Or.inl ⟨by rfl, ?_⟩) (by assumption) ?_; rotate_left; focus (intro ww hSw; (try dsimp only at hSw); go_simp; try with_reducible rfl); (try simp only [Act.put, List.setIfInBounds_toArray, List.set_cons_zero, List.set_cons_succ])); (refine wpAnyT_take (n := 13) (i := 1) (v := ?_) rfl (by kernel_rfl) rfl (by decide) (by kernel_rfl) (by kernel_rfl) (by kernel_rfl) (by kernel_rfl) (fun _ _ _ h => h) (Or.inl ⟨by rfl, ?_⟩) (by assumption) ?_; rotate_left; focus (intro ww hSw; (try dsimp only at hSw); go_simp; try with_reducible rfl); (try simp only [Act.put, List.setIfInBounds_toArray, List.set_cons_zero, List.set_cons_succ])); (refine wpAnyT_take (n := 13) (i := 2) (v := ?_) rfl (by kernel_rfl) rfl (by decide) (by kernel_rfl) (by kernel_rfl) (by kernel_rfl) (by kernel_rfl) (fun _ _ _ h => h) (Or.inl ⟨by rfl, ?_⟩) (by assumption) ?_; rotate_left; focus (intro ww hSw; (try dsimp only at hSw); go_simp; try with_reducible rfl); (try simp only [Act.put, List.setIfInBounds_toArray, List.set_cons_zero, List.set_cons_succ])); (refine wpAnyT_take (n := 13) (i := 3) (v := ?_) rfl (by kernel_rfl) rfl (by decide) (by kernel_rfl) (by kernel_rfl) (by kernel_rfl) (by kernel_rfl) (fun _ _ _ h => h) (Or.inl ⟨by rfl, ?_⟩) (by assumption) ?_; rotate_left; focus (intro ww hSw; (try dsimp only at hSw); go_simp; try with_reducible rfl); (try simp only [Act.put, List.setIfInBounds_toArray, List.set_cons_zero, List.set_cons_succ])); (refine wpAnyT_take (n := 13) (i := 4) (v := ?_) rfl (by kernel_rfl) rfl (by decide) (by kernel_rfl) (by kernel_rfl) (by kernel_rfl) (by kernel_rfl) (fun _ _ _ h => h) (Or.inl ⟨by rfl, ?_⟩) (by assumption) ?_; rotate_left; focus (intro ww hSw; (try dsimp only at hSw); go_simp; try with_reducible rfl); (try simp only [Act.put, List.setIfInBounds_toArray, List.set_cons_zero, List.set_cons_succ])); (refine wpAnyT_take (n := 13) (i := 5) (v := ?_) rfl (by kernel_rfl) rfl (by decide) (by kernel_rfl) (by kernel_rfl) (by kernel_rfl) (by kernel_rfl) (fun _ _ _ h => h) (Or.inl ⟨by rfl, ?_⟩) (by assumption) ?_; rotate_left; focus (intro ww hSw; (try dsimp only at hSw); go_simp; try with_reducible rfl); (try simp only [Act.put, List.setIfInBounds_toArray, List.set_cons_zero, List.set_cons_succ])); (refine wpAnyT_take (n := 13) (i := 6) (v := ?_) rfl (by kernel_rfl) rfl (by decide) (by kernel_rfl) (by kernel_rfl) (by kernel_rfl) (by kernel_rfl) (fun _ _ _ h => h) (Or.inl ⟨by rfl, ?_⟩) (by assumption) ?_; rotate_left; focus (intro ww hSw; (try dsimp only at hSw); go_simp; try with_reducible rfl); (try simp only [Act.put, List.setIfInBounds_toArray, List.set_cons_zero, List.set_cons_succ])); (refine wpAnyT_take (n := 13) (i := 7) (v := ?_) rfl (by kernel_rfl) rfl (by decide) (by kernel_rfl) (by kernel_rfl) (by kernel_rfl) (by kernel_rfl) (fun _ _ _ h => h) (Or.inl ⟨by rfl, ?_⟩) (by assumption) ?_; rotate_left; focus (intro ww hSw; (try dsimp only at hSw); go_simp; try with_reducible rfl); (try simp only [Act.put, List.setIfInBounds_toArray, List.set_cons_zero, List.set_cons_succ])); (refine wpAnyT_take (n := 13) (i := 8) (v := ?_) rfl (by kernel_rfl) rfl (by decide) (by kernel_rfl) (by kernel_rfl) (by kernel_rfl) (by kernel_rfl) (fun _ _ _ h => h) (Or.inl ⟨by rfl, ?_⟩) (by assumption) ?_; rotate_left; focus (intro ww hSw; (try dsimp only at hSw); go_simp; try with_reducible rfl); (try simp only [Act.put, List.setIfInBounds_toArray, List.set_cons_zero, List.set_cons_succ]))
                refine wpAnyT_step (i := 9) (by kernel_rfl) rfl fun K' hK => ?_
                go_simp
                refine hK.out _ _ ⟨(HB9.out.cell (p := ⟨wi.heap.size, 1, none⟩) hg5).trans h1, (HB9.out.cell (p := ⟨b, off + q', none⟩) hbj).trans hcl2, (HB9.out.cell (p := ⟨b3, off3 + m, none⟩) hb3).trans hc4⟩ (fun _ => ?_)
                clear hK hHeld
                refine wpAnyT_step (i := 10) (by kernel_rfl) rfl fun K' hK => ?_
                go_simp
                refine hK.out _ _ ⟨(HB10.out.cell (p := ⟨wi.heap.size, 1, none⟩) hg5).trans h1, (HB10.out.cell (p := ⟨b, off + q', none⟩) hbj).trans hcl2, (HB10.out.cell (p := ⟨b3, off3 + m, none⟩) hb3).trans hc4⟩ (fun _ => ?_)
                clear hK
                refine wpAnyT_step (i := 11) (by kernel_rfl) rfl fun K' hK => ?_
                refine step_push_ints rfl (.tmp 93) (.tmp 102) rfl (w0 := wj) HY1.out HY2.out (fun b hb => (HFS.out b hb).2) HB10.out (by rfl) _ _ [x] (by rfl) HOX2.out (Nat.le_refl _) HCN.out rfl hll ?_
                intro vz wz Fz oz nz fz gz pz
                obtain ⟨Az, mz, cz, rfl⟩ := oz.form
                have hs10 := HB10.out.size
                have hgs := gz.size
                have hne : ∀ y, (Value.slice A5 m5 cap5).ownBlock = some y → wi.heap.size + 1 ≤ y := fun y hy => (HFS.out y (HY1.out.mem hy)).1
                have KEEP : Hid (∀ y, y ≤ wi.heap.size → wz.heap[y]? = wj.heap[y]?) := Lib.hid fun y hy => (gz.block y (by omega) (fun e => by have := hne y e.symm; omega)).trans (HB10.out.block y (by omega))
                have OZ := Lib.hid oz
                have NZ := Lib.hid nz
                have FZ := Lib.hid fz
                have GZ := Lib.hid gz
                have z1 : wz.cell? ⟨wi.heap.size, 1, none⟩ = some (.slice A5 m5 cap5) := (World.cell?_of_block (w := wj) (KEEP.out _ (Nat.le_refl _))).trans h1
                have z2 : wz.cell? ⟨b, off + q', none⟩ = some (.slice (some ⟨b3, off3, none⟩) o.length cap3) := (World.cell?_of_block (w := wj) (KEEP.out _ (Nat.le_of_lt hbl))).trans hcl2
                have z3 : wz.cell? ⟨b3, off3 + m, none⟩ = some (.int .i64 x) := (World.cell?_of_block (w := wj) (KEEP.out _ (Nat.le_of_lt hb3i))).trans hc4
                refine hK.out _ _ ⟨z1, z2, z3⟩ (fun _ => ?_)
                clear hK oz nz fz gz pz
                simp only [Act.put, List.setIfInBounds_toArray, List.set_cons_zero, List.set_cons_succ]
                (refine wpAnyT_take (n := 13) (i := 12) (v := ?_) rfl (by kernel_rfl) rfl (by decide) (by kernel_rfl) (by kernel_rfl) (by kernel_rfl) (by kernel_rfl) (fun _ _ _ h => h) (Or.inl ⟨by rfl, ?_⟩) (by assumption) ?_; rotate_left; focus (intro ww hSw; (try dsimp only at hSw); go_simp; try with_reducible rfl); (try simp only [Act.put, List.setIfInBounds_toArray, List.set_cons_zero, List.set_cons_succ]))
                have qf : ∀ j, wz.frozen? ⟨wi.heap.size, j, none⟩ = false := fun j => (World.frozen?_of_block (w := wj) (KEEP.out _ (Nat.le_refl _))).trans (hf j)
                have z0 : wz.cell? ⟨wi.heap.size, 0, none⟩ = some (.int .i64 k) := (World.cell?_of_block (w := wj) (KEEP.out _ (Nat.le_refl _))).trans h0
                refine wpAnyT_last (n := 13) (by kernel_rfl) rfl (by kernel_rfl) fun K' hK => ?_
                go_simp
                refine hK.out _ _ ?_
                clear hK
                go_wp2
                go_roundw
                case rel =>
                  refine ⟨m + 1, by omega, by go_num, .slice Az mz cz, by simp [go_sem, z0], by simp [go_sem, z1], by simp [go_sem, qf], ⟨Fz, ?_, NZ.out, fun y hy => ?_⟩, ?_, by simp; omega⟩
                  · rw [HT.out]
                    exact OZ.out.stable EI.stable fun y hy => setCell_block _ _ _ y (by
                      have h := FZ.out y hy
                      have h2 : y ∈ Fs → wi.heap.size + 1 ≤ y := fun h => (HFS.out y h).1
                      show y ≠ wi.heap.size
                      rcases h.1 with h3 | h3
                      · have := h2 h3; omega
                      · omega)
                  · have h := FZ.out y hy
                    refine ⟨?_, by simpa using h.2⟩
                    rcases h.1 with h3 | h3
                    · exact (HFS.out y h3).1
                    · omega
                  · exact (Below.mono (HB5.out.trans (HB10.out.mono (by omega))) (Nat.le_refl _)).grown GZ.out (by omega) (fun j hj => by have := hne j hj; omega) |>.setCell (Nat.le_refl _) _
                case measure => (first | omega | (simp [intOf]; omega))
              · obtain rfl : m = o.length := by omega
                have HFIN : Hid (OwII (wi.heap.size + 1) wj.heap.size (.slice A5 m5 cap5) (relM k o).2 wj) := Lib.hid (by have h := HO5.out; rw [List.take_length] at h; exact h)
                have hI : I64 (relM k o).1 := (show I64 (k : Int) from ⟨by omega, by omega⟩)
                have hlo : wi.heap.size ≤ wi.heap.size + 1 := by omega
                have HBA : Hid (Below wi.heap.size wi (wj.alloc (.cells #[.int .i64 k, .slice A5 m5 cap5] 45))) := Lib.hid (HB5.out.alloc (by omega) _)
                have HCA : Hid (∀ j u, [Value.int .i64 (relM k o).1, .slice A5 m5 cap5][j]? = some u → (wj.alloc (.cells #[.int .i64 k, .slice A5 m5 cap5] 45)).cell? ⟨wj.heap.size, j, none⟩ = some u) := Lib.hid fun j u hj => by
                  match j, hj with
                  | 0, hj => simp at hj; subst hj; simp [go_sem]; rfl
                  | 1, hj => simp at hj; subst hj; simp [go_sem]
                have HFA : Hid (OwII (wi.heap.size + 1) wj.heap.size (.slice A5 m5 cap5) (relM k o).2 (wj.alloc (.cells #[.int .i64 k, .slice A5 m5 cap5] 45))) := Lib.hid (HFIN.out.keep EI.stable fun b _ hb => Below.heap_alloc wj _ b hb)
                have hlt5 : ∀ y ∈ F1, y < wi.heap.size := fun y hy => (HL3.out y hy).2
                have HLT5 := Lib.hid hlt5
                have hnk : ¬ ((o.length : Int) < (k : Int)) := by have := HLO.out; omega
                clear hs hb5 HO5 HFIN hlt5
                go_wp2_with (at_builtin; refine push_mo rfl (.tmp 105) (.tmp 107) rfl HL1.out HL2.out HLT5.out HBA.out rfl _ _ (relM k o) rfl HFA.out hI hlo (by simp) HCA.out rfl hTL ?_; intro vz wz Fz oz1 oz2 oz3 gz; obtain ⟨Av, mv, cv, rfl⟩ := oz1.form; have OZ1 := Lib.hid oz1; have OZ2 := Lib.hid oz2; have OZ3 := Lib.hid oz3; have GZ := Lib.hid gz; clear oz1 oz2 oz3 gz)
                have hs10 := HBA.out.size
                have hgs := GZ.out.size
                go_roundw
                case rel =>
                  refine ⟨q' + 1, by omega, by go_num, Fz, by rw [HTK.out]; exact OZ1.out, OZ2.out, fun y hy => ⟨?_, (OZ3.out y hy).2⟩, ⟨?_, ?_, ?_, by omega, fun y h1 h2 h3 => ?_⟩⟩
                  · rcases (OZ3.out y hy).1 with h | h
                    · exact (HL3.out y h).1
                    · exact .inr (by omega)
                  · exact GZ.out.os.trans (HBA.out.os.trans HF1.out.os)
                  · exact GZ.out.tape.trans (HBA.out.tape.trans HF1.out.tape)
                  · exact GZ.out.output.trans (HBA.out.output.trans HF1.out.output)
                  · refine (GZ.out.block y (by omega) fun e => ?_).trans ((HBA.out.block y (by omega)).trans (HF1.out.block y h1 h2 h3))
                    rcases (HL3.out y (HL1.out.mem e.symm)).1 with h | h <;> omega
                case measure => (first | omega | (simp [intOf]; omega))
          · obtain rfl : q' = L.length := by omega
            have HL4 : Hid (OwLf EM 45 2 wr (.slice Ao mo co) (relF k) F1) := Lib.hid (by rw [F.out]; have h := HL1.out; rw [List.take_length] at h; exact h)
            clear HL1
            go_wp2
            refine bodyPost_ret (v := .slice Ao mo co) (by simp [results, Try.results7, go_sem]) rfl ⟨_, rfl, ⟨F1, HL4.out, HL2.out, fun b hb => ⟨?_, (HL3.out b hb).2⟩⟩, ?_⟩
            · rcases (HL3.out b hb).1 with h | h <;> omega
            · exact (HB1.out.trans (HB.out.mono (by omega))).trans ⟨HF1.out.os, HF1.out.tape, HF1.out.output, HF1.out.size, fun b hb => HF1.out.block b (by omega) (by omega) (by simp)⟩
end Go.Proofs.Ytnmkbkpegkchpaa
