/- Drawn equations. -/
import Derived.Test.YtgoghkboklehnaaDrawW
namespace Go.Proofs.Ytgoghkboklehnaa
set_option maxRecDepth 20000
set_option linter.unusedVariables false
set_option linter.unusedSimpArgs false
open Go.RowKit
set_option maxHeartbeats 1000000 in
theorem powerTwo_any (v : Value) (xs : List Int) (w : World) (h : RdI w v xs) (hl : xs.length ≤ 1000) :
    Calls Try.prog 55 #[v, .int .i64 2] w fun e w' => ∃ r ys, e = .returned r ∧ OwI w' w.heap.size r ys ∧ ys.length ≤ 2 * xs.length ∧ Below w.heap.size w w' := by
  have H := Lib.hid h
  obtain ⟨A, cap, rfl, _⟩ := h.arg
  clear h
  go_enter Try.func55, Try.ntmps55
  go_wp2
  go_loopw [5, 6] (fun out i wr => ∃ (j : Nat) (ws : List Int), j ≤ 2 ∧ i = .int .i64 j ∧ ws.length ≤ j * xs.length ∧ OwI wr w.heap.size out ws ∧ Below w.heap.size w wr)
    (fun _ i _ => 2 - (intOf i).toNat)
  case atStart => exact ⟨0, [], Nat.zero_le _, rfl, by simp, OwI_lit w [] I64s_nil (by simp) (Nat.le_refl _), (Below.refl _ _).alloc (Nat.le_refl _) _⟩
  case round =>
    obtain ⟨j, ws, hj, rfl, hws, hO, hB⟩ := hrel
    have HO := Lib.hid hO
    have HB := Lib.hid hB
    have hsz := hB.size
    obtain ⟨Aw, cw, rfl, _⟩ := hO.form
    clear hO hB
    have hww : ws.length ≤ 2000 := by
      have : j * xs.length ≤ 2 * 1000 := Nat.mul_le_mul hj hl
      omega
    by_cases hlt : j < 2
    · have hm : ws.length + xs.length ≤ (j + 1) * xs.length := by rw [Nat.succ_mul]; omega
      go_wp2_with (at_builtin; refine append_ints rfl (.tmp 26) (.tmp 27) rfl w.heap.size _ ws HO.out rfl _ xs (H.out.below HB.out) rfl (by omega) hsz ?_; intro v1 w1 o1 g1 p1; have O1 := Lib.hid o1; have B1 := Lib.hid (HB.out.grown g1 hsz (fun k hk => (HO.out.1.lt k hk).1)); obtain ⟨A1, m1, c1, rfl⟩ := o1.any2; clear o1 g1 p1)
      go_roundw
      case rel => exact ⟨j + 1, ws ++ xs, by omega, by go_num, by rw [List.length_append]; exact hm, O1.out, B1.out⟩
      case measure => (simp [intOf]; omega)
    · obtain rfl : j = 2 := by omega
      go_wp2_with (go_at_call 42; (with_reducible refine (specReduceLetters_any _ ws _ HO.out.rd (by omega)).mono ?_); rintro e w5 ⟨r5, rfl, o5, b5⟩; have O5 := Lib.hid o5; have B5 := Lib.hid b5; obtain ⟨A5, m5, c5, rfl⟩ := o5.any2; clear o5 b5)
      have hlr : (redL [] ws).length ≤ 2 * xs.length := by have := redL_len [] ws; simp at this; omega
      exact bodyPost_ret (v := .slice A5 m5 c5) (by simp [results, Try.results55, go_sem]) rfl ⟨_, _, rfl, O5.out.mono hsz, hlr, HB.out.trans (B5.out.mono hsz)⟩
set_option maxHeartbeats 1000000 in
theorem conj_any (u v : Value) (xs ys : List Int) (w : World) (h : RdI w u xs) (h' : RdI w v ys) (hl : xs.length ≤ 1000) (hl' : ys.length ≤ 1000) :
    Calls Try.prog 56 #[u, v] w fun e w' => ∃ r zs, e = .returned r ∧ OwI w' w.heap.size r zs ∧ zs.length ≤ xs.length + 2 * ys.length ∧ Below w.heap.size w w' := by
  have H := Lib.hid h
  have H' := Lib.hid h'
  obtain ⟨A, cap, rfl, _⟩ := h.arg
  obtain ⟨A', cap', rfl, _⟩ := h'.arg
  clear h h'
  have hi : (invL ys).length = ys.length := by simp [invL, negL]
  have h1 := redL_len [] (invL ys ++ xs)
  have h2 := redL_len [] (redL [] (invL ys ++ xs) ++ ys)
  simp only [List.length_append, hi, List.length_nil] at h1 h2
  have hl1 : (invL ys).length ≤ 536870912 := by omega
  have hl2 : (redL [] (invL ys ++ xs)).length ≤ 536870912 := by omega
  have hzl : (redL [] (redL [] (invL ys ++ xs) ++ ys)).length ≤ xs.length + 2 * ys.length := by omega
  clear hi h1 h2
  generalize hI : invL ys = iy at *
  generalize hM : redL [] (iy ++ xs) = m1 at *
  generalize hZ : redL [] (m1 ++ ys) = zs at *
  have HI := Lib.hid hI
  have HM := Lib.hid hM
  have HZ := Lib.hid hZ
  clear hI hM hZ
  go_enter Try.func56, Try.ntmps56
  go_wp2_with fail
  refine (specInvertWord_any _ ys _ H'.out (by omega)).mono ?_
  rintro e w1 ⟨r1, rfl, o1, b1⟩
  rw [HI.out] at o1
  have O1 := Lib.hid o1
  have B1 := Lib.hid b1
  obtain ⟨A1, c1, rfl, _⟩ := o1.form
  have s1 := b1.size
  clear o1 b1
  go_wp2_with fail
  refine (specMultiplyWords_any _ _ iy xs _ O1.out.rd (H.out.below B1.out) hl1 (by omega)).mono ?_
  rintro e w2 ⟨r2, rfl, o2, b2⟩
  rw [HM.out] at o2
  have O2 := Lib.hid o2
  have B2 := Lib.hid (B1.out.trans (b2.mono s1))
  have s2 := B2.out.size
  obtain ⟨A2, c2, rfl, _⟩ := o2.form
  clear o2 b2
  go_wp2_with fail
  refine (specMultiplyWords_any _ _ m1 ys _ O2.out.rd (H'.out.below B2.out) hl2 (by omega)).mono ?_
  rintro e w3 ⟨r3, rfl, o3, b3⟩
  rw [HZ.out] at o3
  have O3 := Lib.hid (o3.mono s2)
  have B3 := Lib.hid (B2.out.trans (b3.mono s2))
  obtain ⟨A3, m3, c3, rfl⟩ := o3.any2
  clear o3 b3
  go_wp2
  exact bodyPost_ret (v := .slice A3 m3 c3) (by simp [results, Try.results56, go_sem]) rfl ⟨.slice A3 m3 c3, zs, rfl, O3.out, hzl, B3.out⟩
theorem invW_any (v : Value) (xs : List Int) (w : World) (h : RdI w v xs) (hl : xs.length ≤ 1000) :
    Calls Try.prog 41 #[v] w fun e w' => ∃ r ys, e = .returned r ∧ OwI w' w.heap.size r ys ∧ ys.length ≤ xs.length ∧ Below w.heap.size w w' :=
  (specInvertWord_any v xs w h (by omega)).mono fun _ _ ⟨r, he, ho, hb⟩ => ⟨r, _, he, ho, by simp [invL, negL], hb⟩
theorem mulW_any (u v : Value) (xs ys : List Int) (w : World) (h : RdI w u xs) (h' : RdI w v ys) (hl : xs.length ≤ 1000) (hl' : ys.length ≤ 1000) :
    Calls Try.prog 40 #[u, v] w fun e w' => ∃ r zs, e = .returned r ∧ OwI w' w.heap.size r zs ∧ zs.length ≤ xs.length + ys.length ∧ Below w.heap.size w w' :=
  (specMultiplyWords_any u v xs ys w h h' (by omega) (by omega)).mono fun _ _ ⟨r, he, ho, hb⟩ => ⟨r, _, he, ho, by have := redL_len [] (xs ++ ys); simp at this; omega, hb⟩
set_option maxRecDepth 100000 in
set_option maxHeartbeats 4000000 in
theorem l26Equation_any (p : Nat) (A : Option Addr) (cap : Nat) (cs : List Int) (w : World) (h : Cur p A cap cs w) :
    Calls Try.prog 29 #[.pointer (some ⟨p, 0, none⟩)] w fun e w' => ∃ (r : Int) (v : Value) (es : List Int), e = .returned (.tuple #[.int .i64 r, v]) ∧ (1 ≤ r ∧ r ≤ 3) ∧ OwI w' w.heap.size v es ∧ es.length ≤ 100 ∧ Cur p A cap cs w' ∧ Tr p (p + 1) w w' := by
  have H := Lib.hid h
  have hp := h.lt
  clear h
  have RA0 : Hid (RdI (w.alloc (Obj.cells #[.int .i64 1, .int .i64 2, .int .i64 2, .int .i64 2, .int .i64 3] 3)) (.slice (some ⟨w.heap.size, 0, none⟩) 5 5) [1, 2, 2, 2, 3]) := Lib.hid (OwI_lit w [1, 2, 2, 2, 3] (by intro y hy; simp at hy; rcases hy with rfl | rfl | rfl <;> (unfold I64; omega)) (by simp) (Nat.le_refl _)).rd
  have CA0 := Lib.hid (H.out.below ((Below.refl _ _).alloc (Nat.le_refl _) (Obj.cells #[.int .i64 1, .int .i64 2, .int .i64 2, .int .i64 2, .int .i64 3] 3)))
  have TA0 : Hid (Tr p (p + 1) w (w.alloc (Obj.cells #[.int .i64 1, .int .i64 2, .int .i64 2, .int .i64 2, .int .i64 3] 3))) := Lib.hid ⟨rfl, rfl, rfl, by simp, fun k hk _ => Below.heap_alloc w _ k hk⟩
  have hneA : (Value.slice (some ⟨w.heap.size, 0, none⟩) 5 5).ownBlock ≠ some p := fun e => by simp [Value.ownBlock] at e; omega
  go_enter Try.func29, Try.ntmps29
  go_wp2_with fail
  refine (l1PickInt_any p A cap cs _ [1, 2, 2, 2, 3] _ CA0.out RA0.out hneA (by simp) (by simp)).mono ?_
  rintro e w1 ⟨r, rfl, hr, c1, t1⟩
  have C1 := Lib.hid c1
  have T1 := Lib.hid (TA0.out.trans t1)
  have hr1 : 1 ≤ r := by simp at hr; omega
  have hr3 : r ≤ 3 := by simp at hr; omega
  clear c1 t1 CA0 TA0 RA0 hr hneA
  have sz1 := T1.out.size
  go_wp2_with fail
  refine (l2Of_any p A cap cs r 2 _ C1.out hr1 hr3 (by omega) (by omega)).mono ?_
  rintro e w2 ⟨xv, xs, rfl, ox, ⟨hxl, _, _⟩, c2, t2⟩
  have C2 := Lib.hid c2
  have T2 := Lib.hid (T1.out.trans t2)
  have X2 := Lib.hid (ox.mono sz1)
  obtain ⟨Ax, mx, cx, rfl⟩ := ox.any2
  have sz2 := T2.out.size
  have hxl' : xs.length ≤ 2 := by omega
  clear c2 t2 ox hxl
  go_wp2_with fail
  refine (l2Of_any p A cap cs r 3 _ C2.out hr1 hr3 (by omega) (by omega)).mono ?_
  rintro e w3 ⟨uv, us, rfl, ou, ⟨hul, _, _⟩, c3, t3⟩
  have C3 := Lib.hid c3
  have T3 := Lib.hid (T2.out.trans t3)
  have X3 := Lib.hid (X2.out.trP t3 hp)
  have U3 := Lib.hid (ou.mono sz2)
  obtain ⟨Au, mu, cu, rfl⟩ := ou.any2
  have sz3 := T3.out.size
  have hul' : us.length ≤ 3 := by omega
  clear c3 t3 ou hul
  have CA3 := Lib.hid (C3.out.below ((Below.refl _ _).alloc (Nat.le_refl _) (Obj.cells #[] 3)))
  have EA3 : Hid (OwI (w3.alloc (Obj.cells #[] 3)) w.heap.size (.slice (some ⟨w3.heap.size, 0, none⟩) 0 0) []) := Lib.hid (OwI_lit w3 [] I64s_nil (by simp) sz3)
  go_wp2_with fail
  refine (l1Below_any p A cap cs 5 _ CA3.out (by omega) (by omega)).mono ?_
  rintro e w4 ⟨y, rfl, ⟨y0, y5⟩, c4, t4⟩
  have C4 := Lib.hid c4
  have T4 := Lib.hid ((T3.out.bel2 ((Below.refl _ _).alloc (Nat.le_refl _) (Obj.cells #[] 3))).trans t4)
  have X4 := Lib.hid ((X3.out.alloc _).trP t4 hp)
  have U4 := Lib.hid ((U3.out.alloc _).trP t4 hp)
  have E4 := Lib.hid (EA3.out.trP t4 hp)
  have sz4 := T4.out.size
  have sz34 : w3.heap.size < w4.heap.size := by have := t4.size; simp at this; omega
  clear c4 t4 CA3 EA3
  have H9 : Hid (I64 9) := Lib.hid (by unfold I64; omega)
  have hyc : y = 0 ∨ y = 1 ∨ y = 2 ∨ (¬ y = 0 ∧ ¬ y = 1 ∧ ¬ y = 2) := by omega
  rcases hyc with rfl | rfl | rfl | ⟨h0, h1, h2⟩
  · go_wp2_with (first
    | (at_builtin; refine append_ints rfl (.tmp 38) (.tmp 39) rfl w4.heap.size _ [] (OwI_lit w4 [] I64s_nil (by simp) (Nat.le_refl _)) rfl _ us (U4.out.rd.alloc _) rfl (by (try simp); omega) (by simp) ?_; intro v6 w6 o6 g6 p6; have O6 := Lib.hid o6; have B6 := Lib.hid (((Below.refl w4.heap.size w4).alloc (Nat.le_refl _) _).grown g6 (by simp) (fun k hk => by simp [Value.ownBlock] at hk; omega)); have s6 := B6.out.size; obtain ⟨A6, m6, c6, rfl⟩ := o6.any2; clear o6 g6 p6)
    | ((at_builtin; refine push_int rfl (.tmp 40) (.tmp 41) rfl _ _ _ (OwI.alloc O6.out _) rfl _ _ rfl (cell_new1 _ _ _) H9.out (by first | omega | (simp <;> omega)) (by first | omega | (simp <;> omega)) ?_; intro v7 wv7 o7 g7 p7); have O7 := Lib.hid o7; have B7 := Lib.hid (bel_push B6.out s6 O6.out.1 (Nat.le_refl _) g7); have s7 := B7.out.size; obtain ⟨A7, m7, c7, rfl⟩ := o7.any2; clear o7 g7 p7)
    | (go_at_call 41; (with_reducible refine (invW_any _ xs _ (X4.out.rd.below B7.out) (by omega)).mono ?_); rintro e w8 ⟨r8, y8, rfl, o8, h8, b8⟩; have O8 := Lib.hid o8; have B78 := Lib.hid b8; have B8 := Lib.hid (B7.out.trans (b8.mono s7)); have s8 := B8.out.size; obtain ⟨A8, m8, c8, rfl⟩ := o8.any2; clear o8 b8)
    | (go_at_call 41; (with_reducible refine (invW_any _ us _ (U4.out.rd.below B8.out) (by omega)).mono ?_); rintro e w9 ⟨r9, y9, rfl, o9, h9, b9⟩; have O9 := Lib.hid o9; have b9' := Lib.hid b9; have O89 := Lib.hid (O8.out.rd.below b9); have B9 := Lib.hid (B8.out.trans (b9.mono s8)); have s9 := B9.out.size; obtain ⟨A9, m9, c9, rfl⟩ := o9.any2; clear o9 b9)
    | (go_at_call 40; (with_reducible refine (mulW_any _ _ y8 y9 _ O89.out O9.out.rd (by omega) (by omega)).mono ?_); rintro e w10 ⟨r10, y10, rfl, o10, h10, b10⟩; have O10 := Lib.hid o10; have O710 := Lib.hid (((O7.out.below B78.out).below b9'.out).below b10); have B10 := Lib.hid (B9.out.trans (b10.mono s9)); have s10 := B10.out.size; obtain ⟨A10, m10, c10, rfl⟩ := o10.any2; clear o10 b10)
    | (at_builtin; refine append_ints rfl (.tmp 42) (.tmp 47) rfl w4.heap.size _ ([] ++ us ++ [9]) O710.out rfl _ y10 O10.out.rd rfl (by (try simp); omega) s10 ?_; intro v11 w11 o11 g11 p11; have O11 := Lib.hid o11; have B11 := Lib.hid (B10.out.grown g11 s10 (fun k hk => (O710.out.1.lt k hk).1)); have s11 := B11.out.size; obtain ⟨A11, m11, c11, rfl⟩ := o11.any2; clear o11 g11 p11))
    have E_ := Lib.hid (O11.out.mono sz4)
    have C_ := Lib.hid (C4.out.below B11.out)
    have T_ := Lib.hid (T4.out.bel2 B11.out)
    have hn_ : ([] ++ us ++ [9] ++ y10).length ≤ 40 := by simp; omega
    generalize [] ++ us ++ [9] ++ y10 = es at *
    go_wp2_with (first
      | (go_at_call 47; (with_reducible refine (l1Once_any p A cap cs 14 _ C_.out (by omega) (by omega)).mono ?_); rintro e wO ⟨bb, rfl, cO, tO⟩; have CO := Lib.hid cO; have EO := Lib.hid (E_.out.trP tO hp); have TO := Lib.hid (T_.out.trans tO); have sO := TO.out.size; have RA : Hid (RdI (wO.alloc (Obj.cells #[.int .i64 0, .int .i64 4, .int .i64 8] 3)) (.slice (some ⟨wO.heap.size, 0, none⟩) 3 3) [0, 4, 8]) := Lib.hid (OwI_lit wO [0, 4, 8] (by intro y hy; simp at hy; rcases hy with rfl | rfl | rfl <;> (unfold I64; omega)) (by simp) (Nat.le_refl _)).rd; have CA := Lib.hid (cO.below ((Below.refl _ _).alloc (Nat.le_refl _) (Obj.cells #[.int .i64 0, .int .i64 4, .int .i64 8] 3))); have hneA : (Value.slice (some ⟨wO.heap.size, 0, none⟩) 3 3).ownBlock ≠ some p := (fun e => by simp [Value.ownBlock] at e; omega); have EA := Lib.hid (EO.out.alloc (Obj.cells #[.int .i64 0, .int .i64 4, .int .i64 8] 3)); have TA := Lib.hid (TO.out.bel2 ((Below.refl _ _).alloc (Nat.le_refl _) (Obj.cells #[.int .i64 0, .int .i64 4, .int .i64 8] 3))); clear cO tO)
      | (go_at_call 54; (with_reducible refine (l1PickInt_any p A cap cs _ [0, 4, 8] _ CA.out RA.out hneA (by simp) (by simp)).mono ?_); rintro e wP ⟨z, rfl, hz, cP, tP⟩; have CP := Lib.hid cP; have EP := Lib.hid (EA.out.trP tP hp); have TP := Lib.hid (TA.out.trans tP); have sP := TP.out.size; have HZ : Hid (I64 z) := Lib.hid (by simp at hz; rcases hz with rfl | rfl | rfl <;> (unfold I64; omega)); clear cP tP hz)
      | ((at_builtin; refine push_int rfl (.tmp 71) (.tmp 75) rfl _ _ _ (OwI.alloc EP.out _) rfl _ _ rfl (cell_new1 _ _ _) HZ.out (by first | omega | (simp <;> omega)) (by first | omega | (simp <;> omega)) ?_; intro vQ wvQ oQ gQ pQ); have GQ := Lib.hid gQ; have OQ := Lib.hid oQ; obtain ⟨AQ, mQ, cQ, rfl⟩ := oQ.any2; clear oQ gQ pQ))
    · have CQ := Lib.hid ((CP.out.below ((Below.refl _ _).alloc (Nat.le_refl _) _)).new H.out GQ.out (fun b hb => (EP.out.1.lt b hb).1))
      have TQ := Lib.hid ((TP.out.bel2 ((Below.refl _ _).alloc (Nat.le_refl _) _)).grow2 GQ.out (fun b hb => (EP.out.1.lt b hb).1))
      exact bodyPost_ret (v := .tuple #[.int .i64 r, .slice AQ mQ cQ]) (by simp [results, Try.results29, go_sem]) rfl ⟨r, _, _, rfl, ⟨hr1, hr3⟩, OQ.out, (by have := hn_; simp; omega), CQ.out, TQ.out⟩
    · exact bodyPost_ret (v := .tuple #[.int .i64 r, .slice A11 m11 c11]) (by simp [results, Try.results29, go_sem]) rfl ⟨r, _, _, rfl, ⟨hr1, hr3⟩, EO.out, (by have := hn_; (try simp); omega), CO.out, TO.out⟩
  · have O5 : Hid (OwI (w4.alloc (Obj.cells #[.int .i64 9, .int .i64 9] 3)) w4.heap.size (.slice (some ⟨w4.heap.size, 0, none⟩) 2 2) [9, 9]) := Lib.hid (OwI_lit w4 [9, 9] (by intro y hy; simp at hy; subst hy; exact H9.out) (by simp) (Nat.le_refl _))
    have B5 : Hid (Below w4.heap.size w4 (w4.alloc (Obj.cells #[.int .i64 9, .int .i64 9] 3))) := Lib.hid ((Below.refl _ _).alloc (Nat.le_refl _) _)
    have s5 := B5.out.size
    go_wp2_with (first
    | (go_at_call 55; (with_reducible refine (powerTwo_any _ xs _ (X4.out.rd.below B5.out) (by omega)).mono ?_); rintro e w6 ⟨r6, y6, rfl, o6, h6, b6⟩; have O6 := Lib.hid o6; have O56 := Lib.hid (O5.out.below b6); have B6 := Lib.hid (B5.out.trans (b6.mono s5)); have s6 := B6.out.size; obtain ⟨A6, m6, c6, rfl⟩ := o6.any2; clear o6 b6)
    | (go_at_call 41; (with_reducible refine (invW_any _ y6 _ O6.out.rd (by omega)).mono ?_); rintro e w7 ⟨r7, y7, rfl, o7, h7, b7⟩; have O7 := Lib.hid o7; have O57 := Lib.hid (O56.out.below b7); have B7 := Lib.hid (B6.out.trans (b7.mono s6)); have s7 := B7.out.size; obtain ⟨A7, m7, c7, rfl⟩ := o7.any2; clear o7 b7)
    | (at_builtin; refine append_ints rfl (.tmp 51) (.tmp 54) rfl w4.heap.size _ [9, 9] O57.out rfl _ y7 O7.out.rd rfl (by (try simp); omega) s7 ?_; intro v8 w8 o8 g8 p8; have O8 := Lib.hid o8; have B8 := Lib.hid (B7.out.grown g8 s7 (fun k hk => (O57.out.1.lt k hk).1)); have s8 := B8.out.size; obtain ⟨A8, m8, c8, rfl⟩ := o8.any2; clear o8 g8 p8))
    have E_ := Lib.hid (O8.out.mono sz4)
    have C_ := Lib.hid (C4.out.below B8.out)
    have T_ := Lib.hid (T4.out.bel2 B8.out)
    have hn_ : ([9, 9] ++ y7).length ≤ 40 := by simp; omega
    generalize [9, 9] ++ y7 = es at *
    go_wp2_with (first
      | (go_at_call 47; (with_reducible refine (l1Once_any p A cap cs 14 _ C_.out (by omega) (by omega)).mono ?_); rintro e wO ⟨bb, rfl, cO, tO⟩; have CO := Lib.hid cO; have EO := Lib.hid (E_.out.trP tO hp); have TO := Lib.hid (T_.out.trans tO); have sO := TO.out.size; have RA : Hid (RdI (wO.alloc (Obj.cells #[.int .i64 0, .int .i64 4, .int .i64 8] 3)) (.slice (some ⟨wO.heap.size, 0, none⟩) 3 3) [0, 4, 8]) := Lib.hid (OwI_lit wO [0, 4, 8] (by intro y hy; simp at hy; rcases hy with rfl | rfl | rfl <;> (unfold I64; omega)) (by simp) (Nat.le_refl _)).rd; have CA := Lib.hid (cO.below ((Below.refl _ _).alloc (Nat.le_refl _) (Obj.cells #[.int .i64 0, .int .i64 4, .int .i64 8] 3))); have hneA : (Value.slice (some ⟨wO.heap.size, 0, none⟩) 3 3).ownBlock ≠ some p := (fun e => by simp [Value.ownBlock] at e; omega); have EA := Lib.hid (EO.out.alloc (Obj.cells #[.int .i64 0, .int .i64 4, .int .i64 8] 3)); have TA := Lib.hid (TO.out.bel2 ((Below.refl _ _).alloc (Nat.le_refl _) (Obj.cells #[.int .i64 0, .int .i64 4, .int .i64 8] 3))); clear cO tO)
      | (go_at_call 54; (with_reducible refine (l1PickInt_any p A cap cs _ [0, 4, 8] _ CA.out RA.out hneA (by simp) (by simp)).mono ?_); rintro e wP ⟨z, rfl, hz, cP, tP⟩; have CP := Lib.hid cP; have EP := Lib.hid (EA.out.trP tP hp); have TP := Lib.hid (TA.out.trans tP); have sP := TP.out.size; have HZ : Hid (I64 z) := Lib.hid (by simp at hz; rcases hz with rfl | rfl | rfl <;> (unfold I64; omega)); clear cP tP hz)
      | ((at_builtin; refine push_int rfl (.tmp 71) (.tmp 75) rfl _ _ _ (OwI.alloc EP.out _) rfl _ _ rfl (cell_new1 _ _ _) HZ.out (by first | omega | (simp <;> omega)) (by first | omega | (simp <;> omega)) ?_; intro vQ wvQ oQ gQ pQ); have GQ := Lib.hid gQ; have OQ := Lib.hid oQ; obtain ⟨AQ, mQ, cQ, rfl⟩ := oQ.any2; clear oQ gQ pQ))
    · have CQ := Lib.hid ((CP.out.below ((Below.refl _ _).alloc (Nat.le_refl _) _)).new H.out GQ.out (fun b hb => (EP.out.1.lt b hb).1))
      have TQ := Lib.hid ((TP.out.bel2 ((Below.refl _ _).alloc (Nat.le_refl _) _)).grow2 GQ.out (fun b hb => (EP.out.1.lt b hb).1))
      exact bodyPost_ret (v := .tuple #[.int .i64 r, .slice AQ mQ cQ]) (by simp [results, Try.results29, go_sem]) rfl ⟨r, _, _, rfl, ⟨hr1, hr3⟩, OQ.out, (by have := hn_; simp; omega), CQ.out, TQ.out⟩
    · exact bodyPost_ret (v := .tuple #[.int .i64 r, .slice A8 m8 c8]) (by simp [results, Try.results29, go_sem]) rfl ⟨r, _, _, rfl, ⟨hr1, hr3⟩, EO.out, (by have := hn_; (try simp); omega), CO.out, TO.out⟩
  · have O5 : Hid (OwI (w4.alloc (Obj.cells #[.int .i64 (-9)] 3)) w4.heap.size (.slice (some ⟨w4.heap.size, 0, none⟩) 1 1) [-9]) := Lib.hid (OwI_lit w4 [-9] (by intro y hy; simp at hy; subst hy; unfold I64; omega) (by simp) (Nat.le_refl _))
    have B5 : Hid (Below w4.heap.size w4 (w4.alloc (Obj.cells #[.int .i64 (-9)] 3))) := Lib.hid ((Below.refl _ _).alloc (Nat.le_refl _) _)
    have s5 := B5.out.size
    go_wp2_with (first
    | (at_builtin; refine append_ints rfl (.tmp 58) (.tmp 59) rfl w4.heap.size _ [-9] O5.out rfl _ us (U4.out.rd.below B5.out) rfl (by (try simp); omega) s5 ?_; intro v6 w6 o6 g6 p6; have O6 := Lib.hid o6; have B6 := Lib.hid (B5.out.grown g6 s5 (fun k hk => (O5.out.1.lt k hk).1)); have s6 := B6.out.size; obtain ⟨A6, m6, c6, rfl⟩ := o6.any2; clear o6 g6 p6)
    | ((at_builtin; refine push_int rfl (.tmp 60) (.tmp 61) rfl _ _ _ (OwI.alloc O6.out _) rfl _ _ rfl (cell_new1 _ _ _) H9.out (by first | omega | (simp <;> omega)) (by first | omega | (simp <;> omega)) ?_; intro v7 wv7 o7 g7 p7); have O7 := Lib.hid o7; have B7 := Lib.hid (bel_push B6.out s6 O6.out.1 (Nat.le_refl _) g7); have s7 := B7.out.size; obtain ⟨A7, m7, c7, rfl⟩ := o7.any2; clear o7 g7 p7)
    | (go_at_call 56; (with_reducible refine (conj_any _ _ us xs _ (U4.out.rd.below B7.out) (X4.out.rd.below B7.out) (by omega) (by omega)).mono ?_); rintro e w8 ⟨r8, y8, rfl, o8, h8, b8⟩; have O8 := Lib.hid o8; have O78 := Lib.hid (O7.out.below b8); have B8 := Lib.hid (B7.out.trans (b8.mono s7)); have s8 := B8.out.size; obtain ⟨A8, m8, c8, rfl⟩ := o8.any2; clear o8 b8)
    | (go_at_call 41; (with_reducible refine (invW_any _ y8 _ O8.out.rd (by omega)).mono ?_); rintro e w9 ⟨r9, y9, rfl, o9, h9, b9⟩; have O9 := Lib.hid o9; have O79 := Lib.hid (O78.out.below b9); have B9 := Lib.hid (B8.out.trans (b9.mono s8)); have s9 := B9.out.size; obtain ⟨A9, m9, c9, rfl⟩ := o9.any2; clear o9 b9)
    | (at_builtin; refine append_ints rfl (.tmp 63) (.tmp 67) rfl w4.heap.size _ ([-9] ++ us ++ [9]) O79.out rfl _ y9 O9.out.rd rfl (by (try simp); omega) s9 ?_; intro v10 w10 o10 g10 p10; have O10 := Lib.hid o10; have B10 := Lib.hid (B9.out.grown g10 s9 (fun k hk => (O79.out.1.lt k hk).1)); have s10 := B10.out.size; obtain ⟨A10, m10, c10, rfl⟩ := o10.any2; clear o10 g10 p10))
    have E_ := Lib.hid (O10.out.mono sz4)
    have C_ := Lib.hid (C4.out.below B10.out)
    have T_ := Lib.hid (T4.out.bel2 B10.out)
    have hn_ : ([-9] ++ us ++ [9] ++ y9).length ≤ 40 := by simp; omega
    generalize [-9] ++ us ++ [9] ++ y9 = es at *
    go_wp2_with (first
      | (go_at_call 47; (with_reducible refine (l1Once_any p A cap cs 14 _ C_.out (by omega) (by omega)).mono ?_); rintro e wO ⟨bb, rfl, cO, tO⟩; have CO := Lib.hid cO; have EO := Lib.hid (E_.out.trP tO hp); have TO := Lib.hid (T_.out.trans tO); have sO := TO.out.size; have RA : Hid (RdI (wO.alloc (Obj.cells #[.int .i64 0, .int .i64 4, .int .i64 8] 3)) (.slice (some ⟨wO.heap.size, 0, none⟩) 3 3) [0, 4, 8]) := Lib.hid (OwI_lit wO [0, 4, 8] (by intro y hy; simp at hy; rcases hy with rfl | rfl | rfl <;> (unfold I64; omega)) (by simp) (Nat.le_refl _)).rd; have CA := Lib.hid (cO.below ((Below.refl _ _).alloc (Nat.le_refl _) (Obj.cells #[.int .i64 0, .int .i64 4, .int .i64 8] 3))); have hneA : (Value.slice (some ⟨wO.heap.size, 0, none⟩) 3 3).ownBlock ≠ some p := (fun e => by simp [Value.ownBlock] at e; omega); have EA := Lib.hid (EO.out.alloc (Obj.cells #[.int .i64 0, .int .i64 4, .int .i64 8] 3)); have TA := Lib.hid (TO.out.bel2 ((Below.refl _ _).alloc (Nat.le_refl _) (Obj.cells #[.int .i64 0, .int .i64 4, .int .i64 8] 3))); clear cO tO)
      | (go_at_call 54; (with_reducible refine (l1PickInt_any p A cap cs _ [0, 4, 8] _ CA.out RA.out hneA (by simp) (by simp)).mono ?_); rintro e wP ⟨z, rfl, hz, cP, tP⟩; have CP := Lib.hid cP; have EP := Lib.hid (EA.out.trP tP hp); have TP := Lib.hid (TA.out.trans tP); have sP := TP.out.size; have HZ : Hid (I64 z) := Lib.hid (by simp at hz; rcases hz with rfl | rfl | rfl <;> (unfold I64; omega)); clear cP tP hz)
      | ((at_builtin; refine push_int rfl (.tmp 71) (.tmp 75) rfl _ _ _ (OwI.alloc EP.out _) rfl _ _ rfl (cell_new1 _ _ _) HZ.out (by first | omega | (simp <;> omega)) (by first | omega | (simp <;> omega)) ?_; intro vQ wvQ oQ gQ pQ); have GQ := Lib.hid gQ; have OQ := Lib.hid oQ; obtain ⟨AQ, mQ, cQ, rfl⟩ := oQ.any2; clear oQ gQ pQ))
    · have CQ := Lib.hid ((CP.out.below ((Below.refl _ _).alloc (Nat.le_refl _) _)).new H.out GQ.out (fun b hb => (EP.out.1.lt b hb).1))
      have TQ := Lib.hid ((TP.out.bel2 ((Below.refl _ _).alloc (Nat.le_refl _) _)).grow2 GQ.out (fun b hb => (EP.out.1.lt b hb).1))
      exact bodyPost_ret (v := .tuple #[.int .i64 r, .slice AQ mQ cQ]) (by simp [results, Try.results29, go_sem]) rfl ⟨r, _, _, rfl, ⟨hr1, hr3⟩, OQ.out, (by have := hn_; simp; omega), CQ.out, TQ.out⟩
    · exact bodyPost_ret (v := .tuple #[.int .i64 r, .slice A10 m10 c10]) (by simp [results, Try.results29, go_sem]) rfl ⟨r, _, _, rfl, ⟨hr1, hr3⟩, EO.out, (by have := hn_; (try simp); omega), CO.out, TO.out⟩
  · have hwr : IntKind.i64.wrap (-r) = -r := by rw [IntKind.wrap_i64]; omega
    clear X4 U4
    go_wp2_with (go_at_call 30; (with_reducible refine (l1Below_any p A cap cs 7 _ C4.out (by omega) (by omega)).mono ?_); rintro e w5 ⟨n, rfl, ⟨n0, n7⟩, c5, t5⟩; have C5 := Lib.hid c5; have T5 := Lib.hid (T4.out.trans t5); have E5 := Lib.hid (E4.out.trP t5 hp); clear c5 t5)
    go_loopw [7, 8] (fun ev nv wr => ∃ (k : Int) (es : List Int), nv = .int .i64 k ∧ 0 ≤ k ∧ k + es.length ≤ 6 ∧ OwI wr w.heap.size ev es ∧ Cur p A cap cs wr ∧ Tr p (p + 1) w wr)
      (fun _ nv _ => (intOf nv).toNat)
    case atStart => exact ⟨n, [], rfl, n0, by simp; omega, E5.out, C5.out, T5.out⟩
    case round =>
      obtain ⟨k, es, rfl, hk0, hkm, hO, hC, hT⟩ := hrel
      have E_ := Lib.hid hO
      have C_ := Lib.hid hC
      have T_ := Lib.hid hT
      have szr := hT.size
      obtain ⟨Aw, mw, cw, rfl⟩ := hO.any2
      clear hO hC hT
      have hn_ : es.length ≤ 40 := by omega
      by_cases hlt : 0 < k
      · have RA : Hid (RdI (wr.alloc (Obj.cells #[.int .i64 1, .int .i64 (-1), .int .i64 r, .int .i64 (-r), .int .i64 9, .int .i64 (-9)] 3)) (.slice (some ⟨wr.heap.size, 0, none⟩) 6 6) [1, -1, r, -r, 9, -9]) := Lib.hid (OwI_lit wr [1, -1, r, -r, 9, -9] (by intro y hy; simp at hy; unfold I64; omega) (by simp) (Nat.le_refl _)).rd
        have CA := Lib.hid (C_.out.below ((Below.refl _ _).alloc (Nat.le_refl _) (Obj.cells #[.int .i64 1, .int .i64 (-1), .int .i64 r, .int .i64 (-r), .int .i64 9, .int .i64 (-9)] 3)))
        have hneA : (Value.slice (some ⟨wr.heap.size, 0, none⟩) 6 6).ownBlock ≠ some p := fun e => by simp [Value.ownBlock] at e; omega
        have EA := Lib.hid (E_.out.alloc (Obj.cells #[.int .i64 1, .int .i64 (-1), .int .i64 r, .int .i64 (-r), .int .i64 9, .int .i64 (-9)] 3))
        have TA := Lib.hid (T_.out.bel2 ((Below.refl _ _).alloc (Nat.le_refl _) (Obj.cells #[.int .i64 1, .int .i64 (-1), .int .i64 r, .int .i64 (-r), .int .i64 9, .int .i64 (-9)] 3)))
        have hL6 : ([1, -1, r, -r, 9, -9] : List Int).length = 6 := rfl
        have HL6 := Lib.hid hL6
        clear hL6
        go_wp2_with (first
          | (go_at_call 54; (with_reducible refine (l1PickInt_any p A cap cs _ [1, -1, r, -r, 9, -9] _ CA.out RA.out hneA (by simp) (by simp)).mono ?_); rintro e wP ⟨z, rfl, hz, cP, tP⟩; have CP := Lib.hid cP; have EP := Lib.hid (EA.out.trP tP hp); have TP := Lib.hid (TA.out.trans tP); have sP := TP.out.size; have HZ : Hid (I64 z) := Lib.hid (by simp at hz; unfold I64; omega); clear cP tP hz)
          | ((at_builtin; refine push_int rfl (.tmp 27) (.tmp 34) rfl _ _ _ (OwI.alloc EP.out _) rfl _ _ rfl (cell_new1 _ _ _) HZ.out (by first | omega | (simp <;> omega)) (by first | omega | (simp <;> omega)) ?_; intro vQ wvQ oQ gQ pQ); have GQ := Lib.hid gQ; have OQ := Lib.hid oQ; obtain ⟨AQ, mQ, cQ, rfl⟩ := oQ.any2; clear oQ gQ pQ))
        have CQ := Lib.hid ((CP.out.below ((Below.refl _ _).alloc (Nat.le_refl _) _)).new H.out GQ.out (fun b hb => (EP.out.1.lt b hb).1))
        have TQ := Lib.hid ((TP.out.bel2 ((Below.refl _ _).alloc (Nat.le_refl _) _)).grow2 GQ.out (fun b hb => (EP.out.1.lt b hb).1))
        have hwk : IntKind.i64.wrap (k - 1) = k - 1 := by rw [IntKind.wrap_i64]; omega
        go_roundw
        case rel => exact ⟨k - 1, _, by go_num, by omega, by simp; omega, OQ.out, CQ.out, TQ.out⟩
        case measure => (simp [intOf]; omega)
      · skip
        go_wp2_with (first
          | (go_at_call 47; (with_reducible refine (l1Once_any p A cap cs 14 _ C_.out (by omega) (by omega)).mono ?_); rintro e wO ⟨bb, rfl, cO, tO⟩; have CO := Lib.hid cO; have EO := Lib.hid (E_.out.trP tO hp); have TO := Lib.hid (T_.out.trans tO); have sO := TO.out.size; have RA : Hid (RdI (wO.alloc (Obj.cells #[.int .i64 0, .int .i64 4, .int .i64 8] 3)) (.slice (some ⟨wO.heap.size, 0, none⟩) 3 3) [0, 4, 8]) := Lib.hid (OwI_lit wO [0, 4, 8] (by intro y hy; simp at hy; rcases hy with rfl | rfl | rfl <;> (unfold I64; omega)) (by simp) (Nat.le_refl _)).rd; have CA := Lib.hid (cO.below ((Below.refl _ _).alloc (Nat.le_refl _) (Obj.cells #[.int .i64 0, .int .i64 4, .int .i64 8] 3))); have hneA : (Value.slice (some ⟨wO.heap.size, 0, none⟩) 3 3).ownBlock ≠ some p := (fun e => by simp [Value.ownBlock] at e; omega); have EA := Lib.hid (EO.out.alloc (Obj.cells #[.int .i64 0, .int .i64 4, .int .i64 8] 3)); have TA := Lib.hid (TO.out.bel2 ((Below.refl _ _).alloc (Nat.le_refl _) (Obj.cells #[.int .i64 0, .int .i64 4, .int .i64 8] 3))); clear cO tO)
          | (go_at_call 54; (with_reducible refine (l1PickInt_any p A cap cs _ [0, 4, 8] _ CA.out RA.out hneA (by simp) (by simp)).mono ?_); rintro e wP ⟨z, rfl, hz, cP, tP⟩; have CP := Lib.hid cP; have EP := Lib.hid (EA.out.trP tP hp); have TP := Lib.hid (TA.out.trans tP); have sP := TP.out.size; have HZ : Hid (I64 z) := Lib.hid (by simp at hz; rcases hz with rfl | rfl | rfl <;> (unfold I64; omega)); clear cP tP hz)
          | ((at_builtin; refine push_int rfl (.tmp 71) (.tmp 75) rfl _ _ _ (OwI.alloc EP.out _) rfl _ _ rfl (cell_new1 _ _ _) HZ.out (by first | omega | (simp <;> omega)) (by first | omega | (simp <;> omega)) ?_; intro vQ wvQ oQ gQ pQ); have GQ := Lib.hid gQ; have OQ := Lib.hid oQ; obtain ⟨AQ, mQ, cQ, rfl⟩ := oQ.any2; clear oQ gQ pQ))
        · have CQ := Lib.hid ((CP.out.below ((Below.refl _ _).alloc (Nat.le_refl _) _)).new H.out GQ.out (fun b hb => (EP.out.1.lt b hb).1))
          have TQ := Lib.hid ((TP.out.bel2 ((Below.refl _ _).alloc (Nat.le_refl _) _)).grow2 GQ.out (fun b hb => (EP.out.1.lt b hb).1))
          exact bodyPost_ret (v := .tuple #[.int .i64 r, .slice AQ mQ cQ]) (by simp [results, Try.results29, go_sem]) rfl ⟨r, _, _, rfl, ⟨hr1, hr3⟩, OQ.out, (by have := hn_; simp; omega), CQ.out, TQ.out⟩
        · exact bodyPost_ret (v := .tuple #[.int .i64 r, .slice Aw mw cw]) (by simp [results, Try.results29, go_sem]) rfl ⟨r, _, _, rfl, ⟨hr1, hr3⟩, EO.out, (by have := hn_; (try simp); omega), CO.out, TO.out⟩
end Go.Proofs.Ytgoghkboklehnaa
