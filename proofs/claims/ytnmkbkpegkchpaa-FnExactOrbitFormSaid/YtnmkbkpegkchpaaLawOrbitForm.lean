/- The law FnExactOrbitForm: for every input the program answers as the reference, in memory of its own. -/
import Derived.Test.YtnmkbkpegkchpaaLaw
import Derived.Test.YtnmkbkpegkchpaaOrb
import Derived.Test.YtnmkbkpegkchpaaFrame
import Derived.Test.YtnmkbkpegkchpaaRows
import Derived.Test.YtnmkbkpegkchpaaCloOrbitForm
namespace Go.Proofs.Ytnmkbkpegkchpaa.fnExactOrbitForm
set_option maxRecDepth 20000
set_option linter.unusedVariables false
set_option linter.unusedSimpArgs false
open Go.ChangeShapes Go.WideShapes Go.ChangeAt Go.RowKit
open Go.ChangeMaps (open_string shut_string)

set_option maxHeartbeats 3200000 in
theorem walk (x0 : Int) (v1 : Value) (x1 : List Int) (w : World) (hx0 : I64 x0) (h1 : ArgI w v1 x1) :
    Calls Try.prog 4 #[.int .i64 x0, v1] w fun e w' => e = .returned (.bool true) ∧ Below w.heap.size w w' := by
  obtain ⟨Ax1, cx1, rfl⟩ := ArgI.form h1
  by_cases hl1 : 1048576 < x1.length
  · have hdl1 : (1048576 : Int) < (x1.length : Int) := by omega
    go_enter Try.func4, Try.ntmps4
    go_wp2
    go_ret
    exact ⟨rfl, (by repeat (first | exact Below.refl _ _ | (refine Below.setCell ?_ (by first | omega | (simp <;> omega)) _) | (refine bel_drewN ?_ _) | (refine Below.drew ?_) | (refine Below.alloc ?_ (by first | omega | (simp <;> omega)) _)))⟩
  have hm1 : x1.length ≤ 1048576 := by omega
  have X1 := Lib.hid h1.ob
  clear h1
  have B := Lib.hid (Below.refl w.heap.size w)
  go_enter Try.func4, Try.ntmps4
  go_wp2_with fail
  refine (toIntS_ob _ x1 _ X1.out.holds hm1).mono ?_
  rintro e w1 ⟨rY1, rfl, oo, b⟩
  have T := Lib.hid b
  have hs_w1 := T.out.size
  replace X1 := Lib.hid (X1.out.tr T.out (by omega))
  replace B := Lib.hid (bel_tr B.out T.out (by omega) (by omega))
  have Y1 := Lib.hid oo
  clear oo b
  clear T
  go_wp2_with fail
  refine (specOrbitForm_any x0 _ x1 _ hx0 Y1.out.holds.1.rd (by omega)).mono ?_
  rintro e w2 ⟨rS0, rfl, oS0, b⟩
  have T := Lib.hid (Tr.below b)
  have hs_w2 := T.out.size
  replace X1 := Lib.hid (X1.out.tr T.out (by omega))
  replace Y1 := Lib.hid (Y1.out.tr T.out (by omega))
  replace B := Lib.hid (bel_tr B.out T.out (by omega) (by omega))
  have S0 := Lib.hid oS0.ob
  clear oS0
  clear b
  clear T
  clear Y1
  go_wp2_with fail
  refine (toIntS_ob _ x1 _ X1.out.holds hm1).mono ?_
  rintro e w3 ⟨rY2, rfl, oo, b⟩
  have T := Lib.hid b
  have hs_w3 := T.out.size
  replace X1 := Lib.hid (X1.out.tr T.out (by omega))
  replace S0 := Lib.hid (S0.out.tr T.out (by omega))
  replace B := Lib.hid (bel_tr B.out T.out (by omega) (by omega))
  have Y2 := Lib.hid oo
  clear oo b
  clear T
  go_wp2_with fail
  refine (implOrbitForm_any x0 _ x1 _ hx0 Y2.out.holds.1.rd (by omega)).mono ?_
  rintro e w4 ⟨rG0, rfl, oG0, b⟩
  have T := Lib.hid (Tr.below b)
  have hs_w4 := T.out.size
  replace X1 := Lib.hid (X1.out.tr T.out (by omega))
  replace S0 := Lib.hid (S0.out.tr T.out (by omega))
  replace Y2 := Lib.hid (Y2.out.tr T.out (by omega))
  replace B := Lib.hid (bel_tr B.out T.out (by omega) (by omega))
  have G0 := Lib.hid oG0.ob
  clear oG0
  clear b
  clear T
  go_wp2_with fail
  refine (eqIntS_ob _ _ ((orbF x0 x1).1) ((orbF x0 x1).1) _ G0.out.holds S0.out.holds).mono ?_
  rintro e w5 ⟨rfl, b⟩
  have T := Lib.hid b
  have hs_w5 := T.out.size
  replace X1 := Lib.hid (X1.out.tr T.out (by omega))
  replace S0 := Lib.hid (S0.out.tr T.out (by omega))
  replace Y2 := Lib.hid (Y2.out.tr T.out (by omega))
  replace G0 := Lib.hid (G0.out.tr T.out (by omega))
  replace B := Lib.hid (bel_tr B.out T.out (by omega) (by omega))
  clear b
  simp only [decide_true]
  clear T
  go_wp2_with fail
  refine (toIntS_ob _ x1 _ X1.out.holds hm1).mono ?_
  rintro e w6 ⟨rY3, rfl, oo, b⟩
  have T := Lib.hid b
  have hs_w6 := T.out.size
  replace X1 := Lib.hid (X1.out.tr T.out (by omega))
  replace S0 := Lib.hid (S0.out.tr T.out (by omega))
  replace Y2 := Lib.hid (Y2.out.tr T.out (by omega))
  replace G0 := Lib.hid (G0.out.tr T.out (by omega))
  replace B := Lib.hid (bel_tr B.out T.out (by omega) (by omega))
  have Y3 := Lib.hid oo
  clear oo b
  clear T
  go_wp2_with fail
  refine (eqIntS_ob _ _ (x1) (x1) _ Y2.out.holds Y3.out.holds).mono ?_
  rintro e w7 ⟨rfl, b⟩
  have T := Lib.hid b
  have hs_w7 := T.out.size
  replace X1 := Lib.hid (X1.out.tr T.out (by omega))
  replace S0 := Lib.hid (S0.out.tr T.out (by omega))
  replace Y2 := Lib.hid (Y2.out.tr T.out (by omega))
  replace G0 := Lib.hid (G0.out.tr T.out (by omega))
  replace Y3 := Lib.hid (Y3.out.tr T.out (by omega))
  replace B := Lib.hid (bel_tr B.out T.out (by omega) (by omega))
  clear b
  simp only [decide_true]
  clear T
  clear Y3
  go_wp2_with fail
  refine (markIntS_ob _ (x1) _ _ _ _ Y2.out (by first | omega | exact Nat.le_trans (orbF_len _ _) (by omega)) (by omega) (by omega)).mono ?_
  rintro e w8 ⟨rfl, oo, t⟩
  have T := Lib.hid t
  have hs_w8 := T.out.size
  replace X1 := Lib.hid (X1.out.tr T.out (by omega))
  replace S0 := Lib.hid (S0.out.tr T.out (by omega))
  replace G0 := Lib.hid (G0.out.tr T.out (by omega))
  replace B := Lib.hid (bel_tr B.out T.out (by omega) (by omega))
  replace Y2 := Lib.hid oo
  clear t oo
  clear T
  go_wp2_with fail
  refine (eqIntS_ob _ _ ((orbF x0 x1).1) ((orbF x0 x1).1) _ G0.out.holds S0.out.holds).mono ?_
  rintro e w9 ⟨rfl, b⟩
  have T := Lib.hid b
  have hs_w9 := T.out.size
  replace X1 := Lib.hid (X1.out.tr T.out (by omega))
  replace S0 := Lib.hid (S0.out.tr T.out (by omega))
  replace G0 := Lib.hid (G0.out.tr T.out (by omega))
  replace Y2 := Lib.hid (Y2.out.tr T.out (by omega))
  replace B := Lib.hid (bel_tr B.out T.out (by omega) (by omega))
  clear b
  simp only [decide_true]
  clear T
  go_wp2_with fail
  refine (markIntS_ob _ ((orbF x0 x1).1) _ _ _ _ G0.out (by first | omega | exact Nat.le_trans (orbF_len _ _) (by omega)) (by omega) (by omega)).mono ?_
  rintro e w10 ⟨rfl, oo, t⟩
  have T := Lib.hid t
  have hs_w10 := T.out.size
  replace X1 := Lib.hid (X1.out.tr T.out (by omega))
  replace S0 := Lib.hid (S0.out.tr T.out (by omega))
  replace Y2 := Lib.hid (Y2.out.tr T.out (by omega))
  replace B := Lib.hid (bel_tr B.out T.out (by omega) (by omega))
  replace G0 := Lib.hid oo
  clear t oo
  clear T
  go_wp2_with fail
  refine (heldIntS_ob _ ((orbF x0 x1).1) _ _ _ _ G0.out (by first | omega | exact Nat.le_trans (orbF_len _ _) (by omega)) (by omega) (by omega)).mono ?_
  rintro e w11 ⟨rfl, b⟩
  have T := Lib.hid b
  have hs_w11 := T.out.size
  replace X1 := Lib.hid (X1.out.tr T.out (by omega))
  replace S0 := Lib.hid (S0.out.tr T.out (by omega))
  replace Y2 := Lib.hid (Y2.out.tr T.out (by omega))
  replace G0 := Lib.hid (G0.out.tr T.out (by omega))
  replace B := Lib.hid (bel_tr B.out T.out (by omega) (by omega))
  clear b
  clear T
  go_wp2_with fail
  refine (toIntS_ob _ x1 _ X1.out.holds hm1).mono ?_
  rintro e w12 ⟨rY4, rfl, oo, b⟩
  have T := Lib.hid b
  have hs_w12 := T.out.size
  replace X1 := Lib.hid (X1.out.tr T.out (by omega))
  replace S0 := Lib.hid (S0.out.tr T.out (by omega))
  replace Y2 := Lib.hid (Y2.out.tr T.out (by omega))
  replace G0 := Lib.hid (G0.out.tr T.out (by omega))
  replace B := Lib.hid (bel_tr B.out T.out (by omega) (by omega))
  have Y4 := Lib.hid oo
  clear oo b
  clear T
  go_wp2_with fail
  refine (implOrbitForm_any x0 _ x1 _ hx0 Y4.out.holds.1.rd (by omega)).mono ?_
  rintro e w13 ⟨rH0, rfl, oH0, b⟩
  have T := Lib.hid (Tr.below b)
  have hs_w13 := T.out.size
  replace X1 := Lib.hid (X1.out.tr T.out (by omega))
  replace S0 := Lib.hid (S0.out.tr T.out (by omega))
  replace Y2 := Lib.hid (Y2.out.tr T.out (by omega))
  replace G0 := Lib.hid (G0.out.tr T.out (by omega))
  replace Y4 := Lib.hid (Y4.out.tr T.out (by omega))
  replace B := Lib.hid (bel_tr B.out T.out (by omega) (by omega))
  have H0 := Lib.hid oH0.ob
  clear oH0
  clear b
  clear T
  clear Y4
  go_wp2_with fail
  refine (eqIntS_ob _ _ ((orbF x0 x1).1) ((orbF x0 x1).1) _ H0.out.holds S0.out.holds).mono ?_
  rintro e w14 ⟨rfl, b⟩
  have T := Lib.hid b
  have hs_w14 := T.out.size
  replace X1 := Lib.hid (X1.out.tr T.out (by omega))
  replace S0 := Lib.hid (S0.out.tr T.out (by omega))
  replace Y2 := Lib.hid (Y2.out.tr T.out (by omega))
  replace G0 := Lib.hid (G0.out.tr T.out (by omega))
  replace H0 := Lib.hid (H0.out.tr T.out (by omega))
  replace B := Lib.hid (bel_tr B.out T.out (by omega) (by omega))
  clear b
  simp only [decide_true]
  clear T
  go_wp2_with fail
  refine (heldIntS_ob _ ((orbF x0 x1).1) _ _ _ _ G0.out (by first | omega | exact Nat.le_trans (orbF_len _ _) (by omega)) (by omega) (by omega)).mono ?_
  rintro e w15 ⟨rfl, b⟩
  have T := Lib.hid b
  have hs_w15 := T.out.size
  replace X1 := Lib.hid (X1.out.tr T.out (by omega))
  replace S0 := Lib.hid (S0.out.tr T.out (by omega))
  replace Y2 := Lib.hid (Y2.out.tr T.out (by omega))
  replace G0 := Lib.hid (G0.out.tr T.out (by omega))
  replace H0 := Lib.hid (H0.out.tr T.out (by omega))
  replace B := Lib.hid (bel_tr B.out T.out (by omega) (by omega))
  clear b
  clear T
  go_wp2
  go_ret
  exact ⟨rfl, B.out⟩

set_option maxRecDepth 100000 in
theorem lifted (os : Os) (started : os.Started) (H : Type) (enc : TypeId × Value → H) :
    ReturnsInHanded {} Try.checked os 4 .any (Rows.fnExactOrbitFormSpec.pre6 enc Try.prog Try.f4 Rows.fnExactOrbitFormRow.domain false) (Rows.fnExactOrbitFormSpec.post enc Try.prog Try.f4 false true false false) := by
  refine returnsInHanded_of_change (C := Try.checked) own started (by kernel_rfl) Try.func4
    (ChangeSpec.witness6 (enc := enc) (C := Try.checked) false ⟨#[], #[.int .i64 0, .slice none 0 0], []⟩ 8 (by kernel_rfl) (by kernel_rfl) (by kernel_rfl) (by kernel_rfl)) ?_
  intro W base args ds gs before hval0 hW hcnd _
  have hval : ∀ (j : Nat) t v, Try.f4.params[j]? = some t → args[j]? = some v → Value.okWide Try.prog W .any base t v := hval0
  have hW' := hW
  obtain ⟨p, q, hA0, hV, rfl, hfz, hnd⟩ := hW
  have hA : DataW.TrodAll enc Try.prog W 0 (fun _ => true) true Try.f4.params.toList args.toList ds p := hA0
  rw [Try.params4] at hA hval
  obtain ⟨v0, vs0, d0, ds0, p0, q0, hargs, rfl, rfl, h0, r0⟩ := trodAll_cons hA
  obtain ⟨v1, vs1, d1, ds1, p1, q1, rfl, rfl, rfl, h1, r1⟩ := trodAll_cons r0
  obtain ⟨rfl, rfl, rfl⟩ := trodAll_nil r1
  obtain rfl : args = #[v0, v1] := by cases args; simp_all
  obtain ⟨rfl, rfl⟩ := trodVars_none hV
  have k0 := h0
  have lt0 : ∀ x ∈ p0, x.block < W.heap.size := by obtain ⟨m, hm⟩ := k0; exact DataW.trod_lt m _ _ _ hm
  obtain ⟨x0, rfl, rfl, rfl, w0⟩ := open_int Try.underlying3 (hval 0 3 v0 rfl rfl) h0
  have k1 := h1
  have lt1 : ∀ x ∈ p1, x.block < W.heap.size := by obtain ⟨m, hm⟩ := k1; exact DataW.trod_lt m _ _ _ hm
  obtain ⟨x1, a1⟩ := open_argI (hval 1 27 v1 rfl rfl) h1
  clear hA0 hval0
  refine (walk x0 v1 x1 W (wf_I64 w0) a1).mono fun e W' ⟨he, bel⟩ => ?_
  subst he
  exact ⟨_, rfl, _, _, _, [], _, [], hW', trodAll_mk1 (shut_bool Try.underlying4 _), (trodAll_cons_mk (Below.trod laidOut (by kernel_rfl) (of_decide_eq_true (by kernel_rfl)) k0 bel lt0) (trodAll_cons_mk (Below.trod laidOut (by kernel_rfl) (of_decide_eq_true (by kernel_rfl)) k1 bel lt1) trodAll_mk0)), rfl, bel.frame _, fun h => by cases h⟩

/-- The given statement. -/
theorem proved : Rows.FnExactOrbitFormSaid :=
  OpenClaim.holds_of_wide 4 Try.f4 rfl rfl rfl rfl rfl rfl rfl ⟨rfl, rfl, rfl, rfl, rfl⟩ rfl rfl rfl rfl rfl (by as_aux_lemma => kernel_rfl) Try.func4 closed
    (of_decide_eq_true (by as_aux_lemma => kernel_rfl)) (by unfold Func.isWrapper; first | (rw [if_pos (by decide +kernel)]; kernel_rfl) | (rw [if_neg (by decide +kernel)]; exact ⟨rfl, rfl⟩))
    (fun os started H enc _ => lifted os started H enc)
#print axioms proved
end Go.Proofs.Ytnmkbkpegkchpaa.fnExactOrbitForm
