/- The law FnExactHermiteForm: for every input the program answers as the reference, in memory of its own. -/
import Derived.Test.YtnnckojpmnpgbaaIIL
import Derived.Test.YtnnckojpmnpgbaaHerH
import Derived.Test.YtnnckojpmnpgbaaHerL
import Derived.Test.YtnnckojpmnpgbaaHerM
import Derived.Test.YtnnckojpmnpgbaaFrame
import Derived.Test.YtnnckojpmnpgbaaFrameII
import Derived.Test.YtnnckojpmnpgbaaRows
import Derived.Test.YtnnckojpmnpgbaaCloHermiteForm
namespace Go.Proofs.Ytnnckojpmnpgbaa.fnExactHermiteForm
set_option maxRecDepth 20000
set_option linter.unusedVariables false
set_option linter.unusedSimpArgs false
open Go.ChangeShapes Go.WideShapes Go.ChangeAt Go.RowKit
open Go.ChangeMaps (open_string shut_string)

set_option maxHeartbeats 3200000 in
theorem walk (v0 : Value) (x0 : List (List Int)) (x1 : Int) (w : World) (h0 : ArgII w v0 x0) (hx1 : I64 x1) :
    Calls Try.prog 5 #[v0, .int .i64 x1] w fun e w' => e = .returned (.bool true) ∧ Below w.heap.size w w' := by
  obtain ⟨Ax0, cx0, rfl⟩ := ArgII.form h0
  by_cases hz0 : (1048576 : Int) - ((cntLL x0 : Nat) : Int) < 0
  · skip
    go_enter Try.func5, Try.ntmps5
    go_wp2_with fail
    refine (szIntSS_any _ x0 _ _ (h0.below (by repeat (first | exact Below.refl _ _ | (refine Below.setCell ?_ (by first | omega | (simp <;> omega)) _) | (refine bel_drewN ?_ _) | (refine Below.drew ?_) | (refine Below.alloc ?_ (by first | omega | (simp <;> omega)) _)))) (by omega) (by omega)).mono ?_
    rintro e wz0 ⟨rfl, bz0⟩
    have BZ0 := Lib.hid bz0
    have hzs0 := bz0.size
    have hzq0 : w.heap.size ≤ wz0.heap.size := by first | omega | (have hq := bz0.size; simp at hq; omega)
    simp only [if_pos (show ((1048576 : Int) - ((cntLL x0 : Nat) : Int) < 0) by omega)]
    clear bz0
    go_wp2
    go_ret
    exact ⟨rfl, (by repeat (first | exact Below.refl _ _ | (refine Below.setCell ?_ (by first | omega | (simp <;> omega)) _) | (refine bel_drewN ?_ _) | (refine Below.drew ?_) | (refine Below.alloc ?_ (by first | omega | (simp <;> omega)) _) | (refine Below.trans ?_ (Below.mono (Hid.out BZ0) (by first | omega | (simp <;> omega))))))⟩
  have hm0 : cntLL x0 ≤ 1048576 := by omega
  have hc0 : cntL cI x0 ≤ 1048576 := by have h := hm0; unfold cntLL at h; omega
  have X0 := Lib.hid h0.ob
  clear h0
  have B := Lib.hid (Below.refl w.heap.size w)
  go_enter Try.func5, Try.ntmps5
  go_wp2_with fail
  refine (szIntSS_ob _ x0 _ _ X0.out.holds (by omega) (by omega)).mono ?_
  rintro e w1 ⟨rfl, b⟩
  have T := Lib.hid (Tr.below b)
  have hs_w1 := T.out.size
  replace X0 := Lib.hid (X0.out.tr T.out (by omega))
  replace B := Lib.hid (bel_tr B.out T.out (by omega) (by omega))
  clear b
  simp only [if_neg (show ¬ ((1048576 : Int) - ((cntLL x0 : Nat) : Int) < 0) by omega)]
  clear T
  go_wp2_with fail
  refine (toIntSS_ob _ x0 _ X0.out.holds hm0).mono ?_
  rintro e w2 ⟨rY1, rfl, oo, b⟩
  have T := Lib.hid b
  have hs_w2 := T.out.size
  replace X0 := Lib.hid (X0.out.tr T.out (by omega))
  replace B := Lib.hid (bel_tr B.out T.out (by omega) (by omega))
  have Y1 := Lib.hid oo
  clear oo b
  clear T
  go_wp2_with fail
  refine (specHermiteForm_any _ x0 x1 _ Y1.out.holds.rd (by have := (cntLL_each hm0).1; omega) (fun r hr => by have := (cntLL_each hm0).2 r hr; omega)).mono ?_
  rintro e w3 ⟨rS0, rfl, oS0, b⟩
  have T := Lib.hid (Tr.below b)
  have hs_w3 := T.out.size
  replace X0 := Lib.hid (X0.out.tr T.out (by omega))
  replace Y1 := Lib.hid (Y1.out.tr T.out (by omega))
  replace B := Lib.hid (bel_tr B.out T.out (by omega) (by omega))
  have S0 := Lib.hid (OIIs.ob oS0)
  clear oS0
  clear b
  clear T
  clear Y1
  go_wp2_with fail
  refine (toIntSS_ob _ x0 _ X0.out.holds hm0).mono ?_
  rintro e w4 ⟨rY2, rfl, oo, b⟩
  have T := Lib.hid b
  have hs_w4 := T.out.size
  replace X0 := Lib.hid (X0.out.tr T.out (by omega))
  replace S0 := Lib.hid (S0.out.tr T.out (by omega))
  replace B := Lib.hid (bel_tr B.out T.out (by omega) (by omega))
  have Y2 := Lib.hid oo
  clear oo b
  clear T
  go_wp2_with fail
  refine (implHermiteForm_any _ x0 x1 _ Y2.out.holds.rd (by have := (cntLL_each hm0).1; omega) (fun r hr => by have := (cntLL_each hm0).2 r hr; omega)).mono ?_
  rintro e w5 ⟨rG0, rfl, oG0, b⟩
  have T := Lib.hid (Tr.below b)
  have hs_w5 := T.out.size
  replace X0 := Lib.hid (X0.out.tr T.out (by omega))
  replace S0 := Lib.hid (S0.out.tr T.out (by omega))
  replace Y2 := Lib.hid (Y2.out.tr T.out (by omega))
  replace B := Lib.hid (bel_tr B.out T.out (by omega) (by omega))
  have G0 := Lib.hid (OIIs.ob oG0)
  clear oG0
  clear b
  clear T
  go_wp2_with fail
  refine (eqIntSS_ob _ _ ((hermF x1 x0).1) ((hermF x1 x0).1) _ G0.out S0.out).mono ?_
  rintro e w6 ⟨rfl, b⟩
  have T := Lib.hid b
  have hs_w6 := T.out.size
  replace X0 := Lib.hid (X0.out.tr T.out (by omega))
  replace S0 := Lib.hid (S0.out.tr T.out (by omega))
  replace Y2 := Lib.hid (Y2.out.tr T.out (by omega))
  replace G0 := Lib.hid (G0.out.tr T.out (by omega))
  replace B := Lib.hid (bel_tr B.out T.out (by omega) (by omega))
  clear b
  simp only [decide_true]
  clear T
  go_wp2_with fail
  refine (toIntSS_ob _ x0 _ X0.out.holds hm0).mono ?_
  rintro e w7 ⟨rY3, rfl, oo, b⟩
  have T := Lib.hid b
  have hs_w7 := T.out.size
  replace X0 := Lib.hid (X0.out.tr T.out (by omega))
  replace S0 := Lib.hid (S0.out.tr T.out (by omega))
  replace Y2 := Lib.hid (Y2.out.tr T.out (by omega))
  replace G0 := Lib.hid (G0.out.tr T.out (by omega))
  replace B := Lib.hid (bel_tr B.out T.out (by omega) (by omega))
  have Y3 := Lib.hid oo
  clear oo b
  clear T
  go_wp2_with fail
  refine (eqIntSS_ob _ _ (x0) (x0) _ Y2.out Y3.out).mono ?_
  rintro e w8 ⟨rfl, b⟩
  have T := Lib.hid b
  have hs_w8 := T.out.size
  replace X0 := Lib.hid (X0.out.tr T.out (by omega))
  replace S0 := Lib.hid (S0.out.tr T.out (by omega))
  replace Y2 := Lib.hid (Y2.out.tr T.out (by omega))
  replace G0 := Lib.hid (G0.out.tr T.out (by omega))
  replace Y3 := Lib.hid (Y3.out.tr T.out (by omega))
  replace B := Lib.hid (bel_tr B.out T.out (by omega) (by omega))
  clear b
  simp only [decide_true]
  clear T
  clear Y3
  go_wp2_with fail
  refine (markIntSS_ob _ (x0) _ _ _ _ Y2.out (by first | omega | exact herm_cnt _ _) (by omega) (by omega)).mono ?_
  rintro e w9 ⟨rfl, oo, t⟩
  have T := Lib.hid t
  have hs_w9 := T.out.size
  replace X0 := Lib.hid (X0.out.tr T.out (by omega))
  replace S0 := Lib.hid (S0.out.tr T.out (by omega))
  replace G0 := Lib.hid (G0.out.tr T.out (by omega))
  replace B := Lib.hid (bel_tr B.out T.out (by omega) (by omega))
  replace Y2 := Lib.hid oo
  clear t oo
  clear T
  go_wp2_with fail
  refine (eqIntSS_ob _ _ ((hermF x1 x0).1) ((hermF x1 x0).1) _ G0.out S0.out).mono ?_
  rintro e w10 ⟨rfl, b⟩
  have T := Lib.hid b
  have hs_w10 := T.out.size
  replace X0 := Lib.hid (X0.out.tr T.out (by omega))
  replace S0 := Lib.hid (S0.out.tr T.out (by omega))
  replace G0 := Lib.hid (G0.out.tr T.out (by omega))
  replace Y2 := Lib.hid (Y2.out.tr T.out (by omega))
  replace B := Lib.hid (bel_tr B.out T.out (by omega) (by omega))
  clear b
  simp only [decide_true]
  clear T
  go_wp2_with fail
  refine (markIntSS_ob _ ((hermF x1 x0).1) _ _ _ _ G0.out (by first | omega | exact herm_cnt _ _) (by omega) (by omega)).mono ?_
  rintro e w11 ⟨rfl, oo, t⟩
  have T := Lib.hid t
  have hs_w11 := T.out.size
  replace X0 := Lib.hid (X0.out.tr T.out (by omega))
  replace S0 := Lib.hid (S0.out.tr T.out (by omega))
  replace Y2 := Lib.hid (Y2.out.tr T.out (by omega))
  replace B := Lib.hid (bel_tr B.out T.out (by omega) (by omega))
  replace G0 := Lib.hid oo
  clear t oo
  clear T
  go_wp2_with fail
  refine (heldIntSS_ob _ ((hermF x1 x0).1) _ _ _ _ G0.out (by first | omega | exact herm_cnt _ _) (by omega) (by omega)).mono ?_
  rintro e w12 ⟨rfl, b⟩
  have T := Lib.hid b
  have hs_w12 := T.out.size
  replace X0 := Lib.hid (X0.out.tr T.out (by omega))
  replace S0 := Lib.hid (S0.out.tr T.out (by omega))
  replace Y2 := Lib.hid (Y2.out.tr T.out (by omega))
  replace G0 := Lib.hid (G0.out.tr T.out (by omega))
  replace B := Lib.hid (bel_tr B.out T.out (by omega) (by omega))
  clear b
  clear T
  go_wp2_with fail
  refine (toIntSS_ob _ x0 _ X0.out.holds hm0).mono ?_
  rintro e w13 ⟨rY4, rfl, oo, b⟩
  have T := Lib.hid b
  have hs_w13 := T.out.size
  replace X0 := Lib.hid (X0.out.tr T.out (by omega))
  replace S0 := Lib.hid (S0.out.tr T.out (by omega))
  replace Y2 := Lib.hid (Y2.out.tr T.out (by omega))
  replace G0 := Lib.hid (G0.out.tr T.out (by omega))
  replace B := Lib.hid (bel_tr B.out T.out (by omega) (by omega))
  have Y4 := Lib.hid oo
  clear oo b
  clear T
  go_wp2_with fail
  refine (implHermiteForm_any _ x0 x1 _ Y4.out.holds.rd (by have := (cntLL_each hm0).1; omega) (fun r hr => by have := (cntLL_each hm0).2 r hr; omega)).mono ?_
  rintro e w14 ⟨rH0, rfl, oH0, b⟩
  have T := Lib.hid (Tr.below b)
  have hs_w14 := T.out.size
  replace X0 := Lib.hid (X0.out.tr T.out (by omega))
  replace S0 := Lib.hid (S0.out.tr T.out (by omega))
  replace Y2 := Lib.hid (Y2.out.tr T.out (by omega))
  replace G0 := Lib.hid (G0.out.tr T.out (by omega))
  replace Y4 := Lib.hid (Y4.out.tr T.out (by omega))
  replace B := Lib.hid (bel_tr B.out T.out (by omega) (by omega))
  have H0 := Lib.hid (OIIs.ob oH0)
  clear oH0
  clear b
  clear T
  clear Y4
  go_wp2_with fail
  refine (eqIntSS_ob _ _ ((hermF x1 x0).1) ((hermF x1 x0).1) _ H0.out S0.out).mono ?_
  rintro e w15 ⟨rfl, b⟩
  have T := Lib.hid b
  have hs_w15 := T.out.size
  replace X0 := Lib.hid (X0.out.tr T.out (by omega))
  replace S0 := Lib.hid (S0.out.tr T.out (by omega))
  replace Y2 := Lib.hid (Y2.out.tr T.out (by omega))
  replace G0 := Lib.hid (G0.out.tr T.out (by omega))
  replace H0 := Lib.hid (H0.out.tr T.out (by omega))
  replace B := Lib.hid (bel_tr B.out T.out (by omega) (by omega))
  clear b
  simp only [decide_true]
  clear T
  go_wp2_with fail
  refine (heldIntSS_ob _ ((hermF x1 x0).1) _ _ _ _ G0.out (by first | omega | exact herm_cnt _ _) (by omega) (by omega)).mono ?_
  rintro e w16 ⟨rfl, b⟩
  have T := Lib.hid b
  have hs_w16 := T.out.size
  replace X0 := Lib.hid (X0.out.tr T.out (by omega))
  replace S0 := Lib.hid (S0.out.tr T.out (by omega))
  replace Y2 := Lib.hid (Y2.out.tr T.out (by omega))
  replace G0 := Lib.hid (G0.out.tr T.out (by omega))
  replace H0 := Lib.hid (H0.out.tr T.out (by omega))
  replace B := Lib.hid (bel_tr B.out T.out (by omega) (by omega))
  clear b
  clear T
  go_wp2
  go_ret
  exact ⟨rfl, B.out⟩

set_option maxRecDepth 100000 in
theorem lifted (os : Os) (started : os.Started) (H : Type) (enc : TypeId × Value → H) :
    ReturnsInHanded {} Try.checked os 5 .any (Rows.fnExactHermiteFormSpec.pre6 enc Try.prog Try.f5 Rows.fnExactHermiteFormRow.domain false) (Rows.fnExactHermiteFormSpec.post enc Try.prog Try.f5 false true false false) := by
  refine returnsInHanded_of_change (C := Try.checked) own started (by kernel_rfl) Try.func5
    (ChangeSpec.witness6 (enc := enc) (C := Try.checked) false ⟨#[], #[.slice none 0 0, .int .i64 0], []⟩ 8 (by kernel_rfl) (by kernel_rfl) (by kernel_rfl) (by kernel_rfl)) ?_
  intro W base args ds gs before hval0 hW hcnd _
  have hval : ∀ (j : Nat) t v, Try.f5.params[j]? = some t → args[j]? = some v → Value.okWide Try.prog W .any base t v := hval0
  have hW' := hW
  obtain ⟨p, q, hA0, hV, rfl, hfz, hnd⟩ := hW
  have hA : DataW.TrodAll enc Try.prog W 0 (fun _ => true) true Try.f5.params.toList args.toList ds p := hA0
  rw [Try.params5] at hA hval
  obtain ⟨v0, vs0, d0, ds0, p0, q0, hargs, rfl, rfl, h0, r0⟩ := trodAll_cons hA
  obtain ⟨v1, vs1, d1, ds1, p1, q1, rfl, rfl, rfl, h1, r1⟩ := trodAll_cons r0
  obtain ⟨rfl, rfl, rfl⟩ := trodAll_nil r1
  obtain rfl : args = #[v0, v1] := by cases args; simp_all
  obtain ⟨rfl, rfl⟩ := trodVars_none hV
  have k0 := h0
  have lt0 : ∀ x ∈ p0, x.block < W.heap.size := by obtain ⟨m, hm⟩ := k0; exact DataW.trod_lt m _ _ _ hm
  obtain ⟨x0, a0⟩ := open_argII (hval 0 22 v0 rfl rfl) h0
  have k1 := h1
  have lt1 : ∀ x ∈ p1, x.block < W.heap.size := by obtain ⟨m, hm⟩ := k1; exact DataW.trod_lt m _ _ _ hm
  obtain ⟨x1, rfl, rfl, rfl, w1⟩ := open_int Try.underlying3 (hval 1 3 v1 rfl rfl) h1
  clear hA0 hval0
  refine (walk v0 x0 x1 W a0 (wf_I64 w1)).mono fun e W' ⟨he, bel⟩ => ?_
  subst he
  exact ⟨_, rfl, _, _, _, [], _, [], hW', trodAll_mk1 (shut_bool Try.underlying4 _), (trodAll_cons_mk (Below.trod laidOut (by kernel_rfl) (of_decide_eq_true (by kernel_rfl)) k0 bel lt0) (trodAll_cons_mk (Below.trod laidOut (by kernel_rfl) (of_decide_eq_true (by kernel_rfl)) k1 bel lt1) trodAll_mk0)), rfl, bel.frame _, fun h => by cases h⟩

/-- The given statement. -/
theorem proved : Rows.FnExactHermiteFormSaid :=
  OpenClaim.holds_of_wide 5 Try.f5 rfl rfl rfl rfl rfl rfl rfl ⟨rfl, rfl, rfl, rfl, rfl⟩ rfl rfl rfl rfl rfl (by as_aux_lemma => kernel_rfl) Try.func5 closed
    (of_decide_eq_true (by as_aux_lemma => kernel_rfl)) (by unfold Func.isWrapper; first | (rw [if_pos (by decide +kernel)]; kernel_rfl) | (rw [if_neg (by decide +kernel)]; exact ⟨rfl, rfl⟩))
    (fun os started H enc _ => lifted os started H enc)
#print axioms proved
end Go.Proofs.Ytnnckojpmnpgbaa.fnExactHermiteForm
