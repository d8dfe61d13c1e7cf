/- The law FnExactAllRelabellings: for every input the program answers as the reference, in memory of its own. -/
import Derived.Test.YtnmkbkpegkchpaaLaw
import Derived.Test.YtnmkbkpegkchpaaRelM
import Derived.Test.YtnmkbkpegkchpaaFrame
import Derived.Test.YtnmkbkpegkchpaaRows
import Derived.Test.YtnmkbkpegkchpaaCloAllRelabellings
namespace Go.Proofs.Ytnmkbkpegkchpaa.fnExactAllRelabellings
set_option maxRecDepth 20000
set_option linter.unusedVariables false
set_option linter.unusedSimpArgs false
open Go.ChangeShapes Go.WideShapes Go.ChangeAt Go.RowKit
open Go.ChangeMaps (open_string shut_string)

set_option maxHeartbeats 3200000 in
theorem walk (x0 : Int) (w : World) (hx0 : I64 x0) :
    Calls Try.prog 3 #[.int .i64 x0] w fun e w' => e = .returned (.bool true) ∧ Below w.heap.size w w' := by
  have B := Lib.hid (Below.refl w.heap.size w)
  go_enter Try.func3, Try.ntmps3
  go_wp2_with fail
  refine (specAllRelabellings_any x0 _ hx0).mono ?_
  rintro e w1 ⟨rS0, rfl, oS0, b⟩
  have T := Lib.hid (Tr.below b)
  have hs_w1 := T.out.size
  replace B := Lib.hid (bel_tr B.out T.out (by omega) (by omega))
  have S0 := Lib.hid oS0.ob
  clear oS0
  clear b
  clear T
  go_wp2_with fail
  refine (implAllRelabellings_any x0 _ hx0).mono ?_
  rintro e w2 ⟨rG0, rfl, oG0, b⟩
  have T := Lib.hid (Tr.below b)
  have hs_w2 := T.out.size
  replace S0 := Lib.hid (S0.out.tr T.out (by omega))
  replace B := Lib.hid (bel_tr B.out T.out (by omega) (by omega))
  have G0 := Lib.hid oG0.ob
  clear oG0
  clear b
  clear T
  go_wp2_with fail
  refine (eqMorphismS_ob _ _ (relF x0) (relF x0) _ G0.out S0.out).mono ?_
  rintro e w3 ⟨rfl, b⟩
  have T := Lib.hid b
  have hs_w3 := T.out.size
  replace S0 := Lib.hid (S0.out.tr T.out (by omega))
  replace G0 := Lib.hid (G0.out.tr T.out (by omega))
  replace B := Lib.hid (bel_tr B.out T.out (by omega) (by omega))
  clear b
  simp only [decide_true]
  clear T
  go_wp2_with fail
  refine (markMorphismS_ob _ (relF x0) _ _ _ _ G0.out (by first | omega | exact rel_cnt _) (by omega) (by omega)).mono ?_
  rintro e w4 ⟨rfl, oo, t⟩
  have T := Lib.hid t
  have hs_w4 := T.out.size
  replace S0 := Lib.hid (S0.out.tr T.out (by omega))
  replace B := Lib.hid (bel_tr B.out T.out (by omega) (by omega))
  replace G0 := Lib.hid oo
  clear t oo
  clear T
  go_wp2_with fail
  refine (heldMorphismS_ob _ (relF x0) _ _ _ _ G0.out (by first | omega | exact rel_cnt _) (by omega) (by omega)).mono ?_
  rintro e w5 ⟨rfl, b⟩
  have T := Lib.hid b
  have hs_w5 := T.out.size
  replace S0 := Lib.hid (S0.out.tr T.out (by omega))
  replace G0 := Lib.hid (G0.out.tr T.out (by omega))
  replace B := Lib.hid (bel_tr B.out T.out (by omega) (by omega))
  clear b
  clear T
  go_wp2_with fail
  refine (implAllRelabellings_any x0 _ hx0).mono ?_
  rintro e w6 ⟨rH0, rfl, oH0, b⟩
  have T := Lib.hid (Tr.below b)
  have hs_w6 := T.out.size
  replace S0 := Lib.hid (S0.out.tr T.out (by omega))
  replace G0 := Lib.hid (G0.out.tr T.out (by omega))
  replace B := Lib.hid (bel_tr B.out T.out (by omega) (by omega))
  have H0 := Lib.hid oH0.ob
  clear oH0
  clear b
  clear T
  go_wp2_with fail
  refine (eqMorphismS_ob _ _ (relF x0) (relF x0) _ H0.out S0.out).mono ?_
  rintro e w7 ⟨rfl, b⟩
  have T := Lib.hid b
  have hs_w7 := T.out.size
  replace S0 := Lib.hid (S0.out.tr T.out (by omega))
  replace G0 := Lib.hid (G0.out.tr T.out (by omega))
  replace H0 := Lib.hid (H0.out.tr T.out (by omega))
  replace B := Lib.hid (bel_tr B.out T.out (by omega) (by omega))
  clear b
  simp only [decide_true]
  clear T
  go_wp2_with fail
  refine (heldMorphismS_ob _ (relF x0) _ _ _ _ G0.out (by first | omega | exact rel_cnt _) (by omega) (by omega)).mono ?_
  rintro e w8 ⟨rfl, b⟩
  have T := Lib.hid b
  have hs_w8 := T.out.size
  replace S0 := Lib.hid (S0.out.tr T.out (by omega))
  replace G0 := Lib.hid (G0.out.tr T.out (by omega))
  replace H0 := Lib.hid (H0.out.tr T.out (by omega))
  replace B := Lib.hid (bel_tr B.out T.out (by omega) (by omega))
  clear b
  clear T
  go_wp2
  go_ret
  exact ⟨rfl, B.out⟩

set_option maxRecDepth 100000 in
theorem lifted (os : Os) (started : os.Started) (H : Type) (enc : TypeId × Value → H) :
    ReturnsInHanded {} Try.checked os 3 .any (Rows.fnExactAllRelabellingsSpec.pre6 enc Try.prog Try.f3 Rows.fnExactAllRelabellingsRow.domain false) (Rows.fnExactAllRelabellingsSpec.post enc Try.prog Try.f3 false true false false) := by
  refine returnsInHanded_of_change (C := Try.checked) own started (by kernel_rfl) Try.func3
    (ChangeSpec.witness6 (enc := enc) (C := Try.checked) false ⟨#[], #[.int .i64 0], []⟩ 8 (by kernel_rfl) (by kernel_rfl) (by kernel_rfl) (by kernel_rfl)) ?_
  intro W base args ds gs before hval0 hW hcnd _
  have hval : ∀ (j : Nat) t v, Try.f3.params[j]? = some t → args[j]? = some v → Value.okWide Try.prog W .any base t v := hval0
  have hW' := hW
  obtain ⟨p, q, hA0, hV, rfl, hfz, hnd⟩ := hW
  have hA : DataW.TrodAll enc Try.prog W 0 (fun _ => true) true Try.f3.params.toList args.toList ds p := hA0
  rw [Try.params3] at hA hval
  obtain ⟨v0, vs0, d0, ds0, p0, q0, hargs, rfl, rfl, h0, r0⟩ := trodAll_cons hA
  obtain ⟨rfl, rfl, rfl⟩ := trodAll_nil r0
  obtain rfl : args = #[v0] := by cases args; simp_all
  obtain ⟨rfl, rfl⟩ := trodVars_none hV
  have k0 := h0
  have lt0 : ∀ x ∈ p0, x.block < W.heap.size := by obtain ⟨m, hm⟩ := k0; exact DataW.trod_lt m _ _ _ hm
  obtain ⟨x0, rfl, rfl, rfl, w0⟩ := open_int Try.underlying3 (hval 0 3 v0 rfl rfl) h0
  clear hA0 hval0
  refine (walk x0 W (wf_I64 w0)).mono fun e W' ⟨he, bel⟩ => ?_
  subst he
  exact ⟨_, rfl, _, _, _, [], _, [], hW', trodAll_mk1 (shut_bool Try.underlying4 _), (trodAll_cons_mk (Below.trod laidOut (by kernel_rfl) (of_decide_eq_true (by kernel_rfl)) k0 bel lt0) trodAll_mk0), rfl, bel.frame _, fun h => by cases h⟩

/-- The given statement. -/
theorem proved : Rows.FnExactAllRelabellingsSaid :=
  OpenClaim.holds_of_wide 3 Try.f3 rfl rfl rfl rfl rfl rfl rfl ⟨rfl, rfl, rfl, rfl, rfl⟩ rfl rfl rfl rfl rfl (by as_aux_lemma => kernel_rfl) Try.func3 closed
    (of_decide_eq_true (by as_aux_lemma => kernel_rfl)) (by unfold Func.isWrapper; first | (rw [if_pos (by decide +kernel)]; kernel_rfl) | (rw [if_neg (by decide +kernel)]; exact ⟨rfl, rfl⟩))
    (fun os started H enc _ => lifted os started H enc)
#print axioms proved
end Go.Proofs.Ytnmkbkpegkchpaa.fnExactAllRelabellings
