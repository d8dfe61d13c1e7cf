/- The law FnExactSubstituteIn: for every input the program answers as the reference, in memory of its own. -/
import Derived.Test.YtnjbebicnmnnkaaLaw
import Derived.Test.YtnjbebicnmnnkaaSol
import Derived.Test.YtnjbebicnmnnkaaFrame
import Derived.Test.YtnjbebicnmnnkaaRows
namespace Go.Proofs.Ytnjbebicnmnnkaa.fnExactSubstituteIn
open Go.ChangeShapes Go.WideShapes Go.ChangeAt Go.RowKit
open Go.ChangeMaps (open_string shut_string)

set_option maxHeartbeats 1600000 in
theorem walk (v0 : Value) (x0 : List Int) (v1 : Value) (x1 : List Int) (w : World) (h0 : ArgI w v0 x0) (h1 : ArgI w v1 x1) :
    Calls Try.prog 10 #[v0, v1] w fun e w' => e = .returned (.bool true) ∧ Below w.heap.size w w' := by
  obtain ⟨A0, cap0, rfl⟩ := ArgI.form h0
  obtain ⟨A1, cap1, rfl⟩ := ArgI.form h1
  by_cases hl0 : 1048576 < x0.length
  · have hd0 : (1048576 : Int) < (x0.length : Int) := by omega
    go_enter Try.func10, Try.ntmps10
    go_wp2
    go_ret
    exact ⟨rfl, Below.refl _ _⟩
  have hm0 : x0.length ≤ 1048576 := by omega
  by_cases hl1 : 1048576 < x1.length
  · have hd1 : (1048576 : Int) < (x1.length : Int) := by omega
    go_enter Try.func10, Try.ntmps10
    go_wp2
    go_ret
    exact ⟨rfl, Below.refl _ _⟩
  have hm1 : x1.length ≤ 1048576 := by omega
  have X0 := Lib.hid h0.ob
  clear h0
  have X1 := Lib.hid h1.ob
  clear h1
  have B := Lib.hid (Below.refl w.heap.size w)
  go_enter Try.func10, Try.ntmps10
  go_wp2_with fail
  refine (toIntS_ob _ x0 _ X0.out.holds hm0).mono ?_
  rintro e w1 ⟨r1, rfl, oo, b⟩
  have T := Lib.hid b
  have hs1 := T.out.size
  replace X0 := Lib.hid (X0.out.tr T.out (by omega))
  replace X1 := Lib.hid (X1.out.tr T.out (by omega))
  replace B := Lib.hid (bel_tr B.out T.out (by omega) (by omega))
  have Y1 := Lib.hid oo
  clear T
  clear oo b
  go_wp2_with fail
  refine (toIntS_ob _ x1 _ X1.out.holds hm1).mono ?_
  rintro e w2 ⟨r2, rfl, oo, b⟩
  have T := Lib.hid b
  have hs2 := T.out.size
  replace X0 := Lib.hid (X0.out.tr T.out (by omega))
  replace X1 := Lib.hid (X1.out.tr T.out (by omega))
  replace Y1 := Lib.hid (Y1.out.tr T.out (by omega))
  replace B := Lib.hid (bel_tr B.out T.out (by omega) (by omega))
  have Y2 := Lib.hid oo
  clear T
  clear oo b
  go_wp2_with fail
  refine (specSubstituteIn_any _ _ x0 x1 _ Y1.out.holds.1.rd Y2.out.holds.1.rd hm0 hm1).mono ?_
  rintro e w3 ⟨rS0, rfl, oS0, b⟩
  have T := Lib.hid (Tr.below b)
  have hs3 := T.out.size
  replace X0 := Lib.hid (X0.out.tr T.out (by omega))
  replace X1 := Lib.hid (X1.out.tr T.out (by omega))
  replace Y1 := Lib.hid (Y1.out.tr T.out (by omega))
  replace Y2 := Lib.hid (Y2.out.tr T.out (by omega))
  replace B := Lib.hid (bel_tr B.out T.out (by omega) (by omega))
  have S0 := Lib.hid oS0.ob
  clear T
  clear oS0 b
  clear Y1
  clear Y2
  go_wp2_with fail
  refine (toIntS_ob _ x0 _ X0.out.holds hm0).mono ?_
  rintro e w4 ⟨r4, rfl, oo, b⟩
  have T := Lib.hid b
  have hs4 := T.out.size
  replace X0 := Lib.hid (X0.out.tr T.out (by omega))
  replace X1 := Lib.hid (X1.out.tr T.out (by omega))
  replace S0 := Lib.hid (S0.out.tr T.out (by omega))
  replace B := Lib.hid (bel_tr B.out T.out (by omega) (by omega))
  have Y3 := Lib.hid oo
  clear T
  clear oo b
  go_wp2_with fail
  refine (toIntS_ob _ x1 _ X1.out.holds hm1).mono ?_
  rintro e w5 ⟨r5, rfl, oo, b⟩
  have T := Lib.hid b
  have hs5 := T.out.size
  replace X0 := Lib.hid (X0.out.tr T.out (by omega))
  replace X1 := Lib.hid (X1.out.tr T.out (by omega))
  replace S0 := Lib.hid (S0.out.tr T.out (by omega))
  replace Y3 := Lib.hid (Y3.out.tr T.out (by omega))
  replace B := Lib.hid (bel_tr B.out T.out (by omega) (by omega))
  have Y4 := Lib.hid oo
  clear T
  clear oo b
  go_wp2_with fail
  refine (implSubstituteIn_any _ _ x0 x1 _ Y3.out.holds.1.rd Y4.out.holds.1.rd hm0 hm1).mono ?_
  rintro e w6 ⟨rG0, rfl, oG0, b⟩
  have T := Lib.hid (Tr.below b)
  have hs6 := T.out.size
  replace X0 := Lib.hid (X0.out.tr T.out (by omega))
  replace X1 := Lib.hid (X1.out.tr T.out (by omega))
  replace S0 := Lib.hid (S0.out.tr T.out (by omega))
  replace Y3 := Lib.hid (Y3.out.tr T.out (by omega))
  replace Y4 := Lib.hid (Y4.out.tr T.out (by omega))
  replace B := Lib.hid (bel_tr B.out T.out (by omega) (by omega))
  have G0 := Lib.hid oG0.ob
  clear T
  clear oG0 b
  go_wp2_with fail
  refine (eqIntS_ob _ _ (substF x0 x1) (substF x0 x1) _ G0.out.holds S0.out.holds).mono ?_
  rintro e w7 ⟨rfl, b⟩
  have T := Lib.hid b
  have hs7 := T.out.size
  replace X0 := Lib.hid (X0.out.tr T.out (by omega))
  replace X1 := Lib.hid (X1.out.tr T.out (by omega))
  replace S0 := Lib.hid (S0.out.tr T.out (by omega))
  replace Y3 := Lib.hid (Y3.out.tr T.out (by omega))
  replace Y4 := Lib.hid (Y4.out.tr T.out (by omega))
  replace G0 := Lib.hid (G0.out.tr T.out (by omega))
  replace B := Lib.hid (bel_tr B.out T.out (by omega) (by omega))
  clear T
  clear b
  simp only [decide_true]
  go_wp2_with fail
  refine (toIntS_ob _ x0 _ X0.out.holds hm0).mono ?_
  rintro e w8 ⟨r8, rfl, oo, b⟩
  have T := Lib.hid b
  have hs8 := T.out.size
  replace X0 := Lib.hid (X0.out.tr T.out (by omega))
  replace X1 := Lib.hid (X1.out.tr T.out (by omega))
  replace S0 := Lib.hid (S0.out.tr T.out (by omega))
  replace Y3 := Lib.hid (Y3.out.tr T.out (by omega))
  replace Y4 := Lib.hid (Y4.out.tr T.out (by omega))
  replace G0 := Lib.hid (G0.out.tr T.out (by omega))
  replace B := Lib.hid (bel_tr B.out T.out (by omega) (by omega))
  have Y5 := Lib.hid oo
  clear T
  clear oo b
  go_wp2_with fail
  refine (eqIntS_ob _ _ (x0) (x0) _ Y3.out.holds Y5.out.holds).mono ?_
  rintro e w9 ⟨rfl, b⟩
  have T := Lib.hid b
  have hs9 := T.out.size
  replace X0 := Lib.hid (X0.out.tr T.out (by omega))
  replace X1 := Lib.hid (X1.out.tr T.out (by omega))
  replace S0 := Lib.hid (S0.out.tr T.out (by omega))
  replace Y3 := Lib.hid (Y3.out.tr T.out (by omega))
  replace Y4 := Lib.hid (Y4.out.tr T.out (by omega))
  replace G0 := Lib.hid (G0.out.tr T.out (by omega))
  replace Y5 := Lib.hid (Y5.out.tr T.out (by omega))
  replace B := Lib.hid (bel_tr B.out T.out (by omega) (by omega))
  clear T
  clear b
  simp only [decide_true]
  clear Y5
  go_wp2_with fail
  refine (toIntS_ob _ x1 _ X1.out.holds hm1).mono ?_
  rintro e w10 ⟨r10, rfl, oo, b⟩
  have T := Lib.hid b
  have hs10 := T.out.size
  replace X0 := Lib.hid (X0.out.tr T.out (by omega))
  replace X1 := Lib.hid (X1.out.tr T.out (by omega))
  replace S0 := Lib.hid (S0.out.tr T.out (by omega))
  replace Y3 := Lib.hid (Y3.out.tr T.out (by omega))
  replace Y4 := Lib.hid (Y4.out.tr T.out (by omega))
  replace G0 := Lib.hid (G0.out.tr T.out (by omega))
  replace B := Lib.hid (bel_tr B.out T.out (by omega) (by omega))
  have Y6 := Lib.hid oo
  clear T
  clear oo b
  go_wp2_with fail
  refine (eqIntS_ob _ _ (x1) (x1) _ Y4.out.holds Y6.out.holds).mono ?_
  rintro e w11 ⟨rfl, b⟩
  have T := Lib.hid b
  have hs11 := T.out.size
  replace X0 := Lib.hid (X0.out.tr T.out (by omega))
  replace X1 := Lib.hid (X1.out.tr T.out (by omega))
  replace S0 := Lib.hid (S0.out.tr T.out (by omega))
  replace Y3 := Lib.hid (Y3.out.tr T.out (by omega))
  replace Y4 := Lib.hid (Y4.out.tr T.out (by omega))
  replace G0 := Lib.hid (G0.out.tr T.out (by omega))
  replace Y6 := Lib.hid (Y6.out.tr T.out (by omega))
  replace B := Lib.hid (bel_tr B.out T.out (by omega) (by omega))
  clear T
  clear b
  simp only [decide_true]
  clear Y6
  go_wp2_with fail
  refine (markIntS_ob _ (x0) _ _ _ _ Y3.out (by first | omega | exact Nat.le_trans (substF_len _ _ hm1) (by omega)) (by omega) (by omega)).mono ?_
  rintro e w12 ⟨rfl, oo, t⟩
  have T := Lib.hid t
  have hs12 := T.out.size
  replace X0 := Lib.hid (X0.out.tr T.out (by omega))
  replace X1 := Lib.hid (X1.out.tr T.out (by omega))
  replace S0 := Lib.hid (S0.out.tr T.out (by omega))
  replace Y4 := Lib.hid (Y4.out.tr T.out (by omega))
  replace G0 := Lib.hid (G0.out.tr T.out (by omega))
  replace B := Lib.hid (bel_tr B.out T.out (by omega) (by omega))
  replace Y3 := Lib.hid oo
  clear T t oo
  go_wp2_with fail
  refine (markIntS_ob _ (x1) _ _ _ _ Y4.out (by first | omega | exact Nat.le_trans (substF_len _ _ hm1) (by omega)) (by omega) (by omega)).mono ?_
  rintro e w13 ⟨rfl, oo, t⟩
  have T := Lib.hid t
  have hs13 := T.out.size
  replace X0 := Lib.hid (X0.out.tr T.out (by omega))
  replace X1 := Lib.hid (X1.out.tr T.out (by omega))
  replace S0 := Lib.hid (S0.out.tr T.out (by omega))
  replace G0 := Lib.hid (G0.out.tr T.out (by omega))
  replace Y3 := Lib.hid (Y3.out.tr T.out (by omega))
  replace B := Lib.hid (bel_tr B.out T.out (by omega) (by omega))
  replace Y4 := Lib.hid oo
  clear T t oo
  go_wp2_with fail
  refine (eqIntS_ob _ _ (substF x0 x1) (substF x0 x1) _ G0.out.holds S0.out.holds).mono ?_
  rintro e w14 ⟨rfl, b⟩
  have T := Lib.hid b
  have hs14 := T.out.size
  replace X0 := Lib.hid (X0.out.tr T.out (by omega))
  replace X1 := Lib.hid (X1.out.tr T.out (by omega))
  replace S0 := Lib.hid (S0.out.tr T.out (by omega))
  replace G0 := Lib.hid (G0.out.tr T.out (by omega))
  replace Y3 := Lib.hid (Y3.out.tr T.out (by omega))
  replace Y4 := Lib.hid (Y4.out.tr T.out (by omega))
  replace B := Lib.hid (bel_tr B.out T.out (by omega) (by omega))
  clear T
  clear b
  simp only [decide_true]
  go_wp2_with fail
  refine (markIntS_ob _ (substF x0 x1) _ _ _ _ G0.out (by first | omega | exact Nat.le_trans (substF_len _ _ hm1) (by omega)) (by omega) (by omega)).mono ?_
  rintro e w15 ⟨rfl, oo, t⟩
  have T := Lib.hid t
  have hs15 := T.out.size
  replace X0 := Lib.hid (X0.out.tr T.out (by omega))
  replace X1 := Lib.hid (X1.out.tr T.out (by omega))
  replace S0 := Lib.hid (S0.out.tr T.out (by omega))
  replace Y3 := Lib.hid (Y3.out.tr T.out (by omega))
  replace Y4 := Lib.hid (Y4.out.tr T.out (by omega))
  replace B := Lib.hid (bel_tr B.out T.out (by omega) (by omega))
  replace G0 := Lib.hid oo
  clear T t oo
  go_wp2_with fail
  refine (heldIntS_ob _ (substF x0 x1) _ _ _ _ G0.out (by first | omega | exact Nat.le_trans (substF_len _ _ hm1) (by omega)) (by omega) (by omega)).mono ?_
  rintro e w16 ⟨rfl, b⟩
  have T := Lib.hid b
  have hs16 := T.out.size
  replace X0 := Lib.hid (X0.out.tr T.out (by omega))
  replace X1 := Lib.hid (X1.out.tr T.out (by omega))
  replace S0 := Lib.hid (S0.out.tr T.out (by omega))
  replace Y3 := Lib.hid (Y3.out.tr T.out (by omega))
  replace Y4 := Lib.hid (Y4.out.tr T.out (by omega))
  replace G0 := Lib.hid (G0.out.tr T.out (by omega))
  replace B := Lib.hid (bel_tr B.out T.out (by omega) (by omega))
  clear T
  clear b
  go_wp2_with fail
  refine (toIntS_ob _ x0 _ X0.out.holds hm0).mono ?_
  rintro e w17 ⟨r17, rfl, oo, b⟩
  have T := Lib.hid b
  have hs17 := T.out.size
  replace X0 := Lib.hid (X0.out.tr T.out (by omega))
  replace X1 := Lib.hid (X1.out.tr T.out (by omega))
  replace S0 := Lib.hid (S0.out.tr T.out (by omega))
  replace Y3 := Lib.hid (Y3.out.tr T.out (by omega))
  replace Y4 := Lib.hid (Y4.out.tr T.out (by omega))
  replace G0 := Lib.hid (G0.out.tr T.out (by omega))
  replace B := Lib.hid (bel_tr B.out T.out (by omega) (by omega))
  have Y7 := Lib.hid oo
  clear T
  clear oo b
  go_wp2_with fail
  refine (toIntS_ob _ x1 _ X1.out.holds hm1).mono ?_
  rintro e w18 ⟨r18, rfl, oo, b⟩
  have T := Lib.hid b
  have hs18 := T.out.size
  replace X0 := Lib.hid (X0.out.tr T.out (by omega))
  replace X1 := Lib.hid (X1.out.tr T.out (by omega))
  replace S0 := Lib.hid (S0.out.tr T.out (by omega))
  replace Y3 := Lib.hid (Y3.out.tr T.out (by omega))
  replace Y4 := Lib.hid (Y4.out.tr T.out (by omega))
  replace G0 := Lib.hid (G0.out.tr T.out (by omega))
  replace Y7 := Lib.hid (Y7.out.tr T.out (by omega))
  replace B := Lib.hid (bel_tr B.out T.out (by omega) (by omega))
  have Y8 := Lib.hid oo
  clear T
  clear oo b
  go_wp2_with fail
  refine (implSubstituteIn_any _ _ x0 x1 _ Y7.out.holds.1.rd Y8.out.holds.1.rd hm0 hm1).mono ?_
  rintro e w19 ⟨rH0, rfl, oH0, b⟩
  have T := Lib.hid (Tr.below b)
  have hs19 := T.out.size
  replace X0 := Lib.hid (X0.out.tr T.out (by omega))
  replace X1 := Lib.hid (X1.out.tr T.out (by omega))
  replace S0 := Lib.hid (S0.out.tr T.out (by omega))
  replace Y3 := Lib.hid (Y3.out.tr T.out (by omega))
  replace Y4 := Lib.hid (Y4.out.tr T.out (by omega))
  replace G0 := Lib.hid (G0.out.tr T.out (by omega))
  replace Y7 := Lib.hid (Y7.out.tr T.out (by omega))
  replace Y8 := Lib.hid (Y8.out.tr T.out (by omega))
  replace B := Lib.hid (bel_tr B.out T.out (by omega) (by omega))
  have H0 := Lib.hid oH0.ob
  clear T
  clear oH0 b
  go_wp2_with fail
  refine (eqIntS_ob _ _ (substF x0 x1) (substF x0 x1) _ H0.out.holds S0.out.holds).mono ?_
  rintro e w20 ⟨rfl, b⟩
  have T := Lib.hid b
  have hs20 := T.out.size
  replace X0 := Lib.hid (X0.out.tr T.out (by omega))
  replace X1 := Lib.hid (X1.out.tr T.out (by omega))
  replace S0 := Lib.hid (S0.out.tr T.out (by omega))
  replace Y3 := Lib.hid (Y3.out.tr T.out (by omega))
  replace Y4 := Lib.hid (Y4.out.tr T.out (by omega))
  replace G0 := Lib.hid (G0.out.tr T.out (by omega))
  replace Y7 := Lib.hid (Y7.out.tr T.out (by omega))
  replace Y8 := Lib.hid (Y8.out.tr T.out (by omega))
  replace H0 := Lib.hid (H0.out.tr T.out (by omega))
  replace B := Lib.hid (bel_tr B.out T.out (by omega) (by omega))
  clear T
  clear b
  simp only [decide_true]
  go_wp2_with fail
  refine (heldIntS_ob _ (substF x0 x1) _ _ _ _ G0.out (by first | omega | exact Nat.le_trans (substF_len _ _ hm1) (by omega)) (by omega) (by omega)).mono ?_
  rintro e w21 ⟨rfl, b⟩
  have T := Lib.hid b
  have hs21 := T.out.size
  replace X0 := Lib.hid (X0.out.tr T.out (by omega))
  replace X1 := Lib.hid (X1.out.tr T.out (by omega))
  replace S0 := Lib.hid (S0.out.tr T.out (by omega))
  replace Y3 := Lib.hid (Y3.out.tr T.out (by omega))
  replace Y4 := Lib.hid (Y4.out.tr T.out (by omega))
  replace G0 := Lib.hid (G0.out.tr T.out (by omega))
  replace Y7 := Lib.hid (Y7.out.tr T.out (by omega))
  replace Y8 := Lib.hid (Y8.out.tr T.out (by omega))
  replace H0 := Lib.hid (H0.out.tr T.out (by omega))
  replace B := Lib.hid (bel_tr B.out T.out (by omega) (by omega))
  clear T
  clear b
  go_wp2
  go_ret
  exact ⟨rfl, B.out⟩

set_option maxRecDepth 100000 in
theorem lifted (os : Os) (started : os.Started) (H : Type) (enc : TypeId × Value → H) :
    ReturnsInHanded {} Try.checked os 10 .any (Rows.fnExactSubstituteInSpec.pre6 enc Try.prog Try.f10 Rows.fnExactSubstituteInRow.domain false) (Rows.fnExactSubstituteInSpec.post enc Try.prog Try.f10 false true false false) := by
  refine returnsInHanded_of_change (C := Try.checked) own started (by kernel_rfl) Try.func10
    (ChangeSpec.witness6 (enc := enc) (C := Try.checked) false ⟨#[], #[.slice none 0 0, .slice none 0 0], []⟩ 8 (by kernel_rfl) (by kernel_rfl) (by kernel_rfl) (by kernel_rfl)) ?_
  intro W base args ds gs before hval0 hW hcnd _
  have hval : ∀ (j : Nat) t v, Try.f10.params[j]? = some t → args[j]? = some v → Value.okWide Try.prog W .any base t v := hval0
  have hW' := hW
  obtain ⟨p, q, hA0, hV, rfl, hfz, hnd⟩ := hW
  have hA : DataW.TrodAll enc Try.prog W 0 (fun _ => true) true Try.f10.params.toList args.toList ds p := hA0
  rw [Try.params10] at hA hval
  obtain ⟨v0, vs0, d0, ds0, p0, q0, hargs, rfl, rfl, h0, r0⟩ := trodAll_cons hA
  obtain ⟨v1, vs1, d1, ds1, p1, q1, rfl, rfl, rfl, h1, r1⟩ := trodAll_cons r0
  obtain ⟨rfl, rfl, rfl⟩ := trodAll_nil r1
  obtain rfl : args = #[v0, v1] := by cases args; simp_all
  obtain ⟨rfl, rfl⟩ := trodVars_none hV
  have k0 := h0
  have lt0 : ∀ x ∈ p0, x.block < W.heap.size := by obtain ⟨m, hm⟩ := k0; exact DataW.trod_lt m _ _ _ hm
  obtain ⟨x0, a0⟩ := open_argI (hval 0 24 v0 rfl rfl) h0
  have k1 := h1
  have lt1 : ∀ x ∈ p1, x.block < W.heap.size := by obtain ⟨m, hm⟩ := k1; exact DataW.trod_lt m _ _ _ hm
  obtain ⟨x1, a1⟩ := open_argI (hval 1 24 v1 rfl rfl) h1
  clear hA0 hval0
  refine (walk v0 x0 v1 x1 W a0 a1).mono fun e W' ⟨he, bel⟩ => ?_
  subst he
  exact ⟨_, rfl, _, _, _, [], _, [], hW', trodAll_mk1 (shut_bool Try.underlying4 _), (trodAll_cons_mk (Below.trod laidOut (by kernel_rfl) (of_decide_eq_true (by kernel_rfl)) k0 bel lt0) (trodAll_cons_mk (Below.trod laidOut (by kernel_rfl) (of_decide_eq_true (by kernel_rfl)) k1 bel lt1) trodAll_mk0)), rfl, bel.frame _, fun h => by cases h⟩

/-- The given statement. -/
theorem proved : Rows.FnExactSubstituteInSaid :=
  OpenClaim.holds_of_wide 10 Try.f10 rfl rfl rfl rfl rfl rfl rfl ⟨rfl, rfl, rfl, rfl, rfl⟩ rfl rfl rfl rfl rfl (by kernel_rfl) Try.func10 (by kernel_rfl)
    (of_decide_eq_true (by kernel_rfl)) (by unfold Func.isWrapper; first | (rw [if_pos (by decide +kernel)]; kernel_rfl) | (rw [if_neg (by decide +kernel)]; exact ⟨rfl, rfl⟩))
    (fun os started H enc _ => lifted os started H enc)
#print axioms proved
end Go.Proofs.Ytnjbebicnmnnkaa.fnExactSubstituteIn
