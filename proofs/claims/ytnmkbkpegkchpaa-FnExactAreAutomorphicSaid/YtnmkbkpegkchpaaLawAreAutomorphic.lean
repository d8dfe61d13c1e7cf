/- The law FnExactAreAutomorphic: for every input the program answers as the reference, in memory of its own. -/
import Derived.Test.YtnmkbkpegkchpaaLaw
import Derived.Test.YtnmkbkpegkchpaaOrb
import Derived.Test.YtnmkbkpegkchpaaFrame
import Derived.Test.YtnmkbkpegkchpaaRows
import Derived.Test.YtnmkbkpegkchpaaCloAreAutomorphic
namespace Go.Proofs.Ytnmkbkpegkchpaa.fnExactAreAutomorphic
set_option maxRecDepth 20000
set_option linter.unusedVariables false
set_option linter.unusedSimpArgs false
open Go.ChangeShapes Go.WideShapes Go.ChangeAt Go.RowKit
open Go.ChangeMaps (open_string shut_string)

set_option maxHeartbeats 3200000 in
theorem walk (x0 : Int) (v1 : Value) (x1 : List Int) (v2 : Value) (x2 : List Int) (w : World) (hx0 : I64 x0) (h1 : ArgI w v1 x1) (h2 : ArgI w v2 x2) :
    Calls Try.prog 5 #[.int .i64 x0, v1, v2] w fun e w' => e = .returned (.bool true) ∧ Below w.heap.size w w' := by
  obtain ⟨Ax1, cx1, rfl⟩ := ArgI.form h1
  obtain ⟨Ax2, cx2, rfl⟩ := ArgI.form h2
  by_cases hl1 : 1048576 < x1.length
  · have hdl1 : (1048576 : Int) < (x1.length : Int) := by omega
    go_enter Try.func5, Try.ntmps5
    go_wp2
    go_ret
    exact ⟨rfl, (by repeat (first | exact Below.refl _ _ | (refine Below.setCell ?_ (by first | omega | (simp <;> omega)) _) | (refine bel_drewN ?_ _) | (refine Below.drew ?_) | (refine Below.alloc ?_ (by first | omega | (simp <;> omega)) _)))⟩
  have hm1 : x1.length ≤ 1048576 := by omega
  by_cases hl2 : 1048576 < x2.length
  · have hdl2 : (1048576 : Int) < (x2.length : Int) := by omega
    go_enter Try.func5, Try.ntmps5
    go_wp2
    go_ret
    exact ⟨rfl, (by repeat (first | exact Below.refl _ _ | (refine Below.setCell ?_ (by first | omega | (simp <;> omega)) _) | (refine bel_drewN ?_ _) | (refine Below.drew ?_) | (refine Below.alloc ?_ (by first | omega | (simp <;> omega)) _)))⟩
  have hm2 : x2.length ≤ 1048576 := by omega
  have X1 := Lib.hid h1.ob
  clear h1
  have X2 := Lib.hid h2.ob
  clear h2
  have B := Lib.hid (Below.refl w.heap.size w)
  go_enter Try.func5, Try.ntmps5
  go_wp2_with fail
  refine (toIntS_ob _ x1 _ X1.out.holds hm1).mono ?_
  rintro e w1 ⟨rY1, rfl, oo, b⟩
  have T := Lib.hid b
  have hs_w1 := T.out.size
  replace X1 := Lib.hid (X1.out.tr T.out (by omega))
  replace X2 := Lib.hid (X2.out.tr T.out (by omega))
  replace B := Lib.hid (bel_tr B.out T.out (by omega) (by omega))
  have Y1 := Lib.hid oo
  clear oo b
  clear T
  go_wp2_with fail
  refine (toIntS_ob _ x2 _ X2.out.holds hm2).mono ?_
  rintro e w2 ⟨rY2, rfl, oo, b⟩
  have T := Lib.hid b
  have hs_w2 := T.out.size
  replace X1 := Lib.hid (X1.out.tr T.out (by omega))
  replace X2 := Lib.hid (X2.out.tr T.out (by omega))
  replace Y1 := Lib.hid (Y1.out.tr T.out (by omega))
  replace B := Lib.hid (bel_tr B.out T.out (by omega) (by omega))
  have Y2 := Lib.hid oo
  clear oo b
  clear T
  go_wp2_with fail
  refine (specAreAutomorphic_any x0 _ _ x1 x2 _ hx0 Y1.out.holds.1.rd Y2.out.holds.1.rd (by omega) (by omega)).mono ?_
  rintro e w3 ⟨rfl, b⟩
  have T := Lib.hid (Tr.below b)
  have hs_w3 := T.out.size
  replace X1 := Lib.hid (X1.out.tr T.out (by omega))
  replace X2 := Lib.hid (X2.out.tr T.out (by omega))
  replace Y1 := Lib.hid (Y1.out.tr T.out (by omega))
  replace Y2 := Lib.hid (Y2.out.tr T.out (by omega))
  replace B := Lib.hid (bel_tr B.out T.out (by omega) (by omega))
  clear b
  clear T
  clear Y1
  clear Y2
  go_wp2_with fail
  refine (toIntS_ob _ x1 _ X1.out.holds hm1).mono ?_
  rintro e w4 ⟨rY3, rfl, oo, b⟩
  have T := Lib.hid b
  have hs_w4 := T.out.size
  replace X1 := Lib.hid (X1.out.tr T.out (by omega))
  replace X2 := Lib.hid (X2.out.tr T.out (by omega))
  replace B := Lib.hid (bel_tr B.out T.out (by omega) (by omega))
  have Y3 := Lib.hid oo
  clear oo b
  clear T
  go_wp2_with fail
  refine (toIntS_ob _ x2 _ X2.out.holds hm2).mono ?_
  rintro e w5 ⟨rY4, rfl, oo, b⟩
  have T := Lib.hid b
  have hs_w5 := T.out.size
  replace X1 := Lib.hid (X1.out.tr T.out (by omega))
  replace X2 := Lib.hid (X2.out.tr T.out (by omega))
  replace Y3 := Lib.hid (Y3.out.tr T.out (by omega))
  replace B := Lib.hid (bel_tr B.out T.out (by omega) (by omega))
  have Y4 := Lib.hid oo
  clear oo b
  clear T
  go_wp2_with fail
  refine (implAreAutomorphic_any x0 _ _ x1 x2 _ hx0 Y3.out.holds.1.rd Y4.out.holds.1.rd (by omega) (by omega)).mono ?_
  rintro e w6 ⟨rfl, b⟩
  have T := Lib.hid (Tr.below b)
  have hs_w6 := T.out.size
  replace X1 := Lib.hid (X1.out.tr T.out (by omega))
  replace X2 := Lib.hid (X2.out.tr T.out (by omega))
  replace Y3 := Lib.hid (Y3.out.tr T.out (by omega))
  replace Y4 := Lib.hid (Y4.out.tr T.out (by omega))
  replace B := Lib.hid (bel_tr B.out T.out (by omega) (by omega))
  clear b
  clear T
  go_wp2_with fail
  refine (toIntS_ob _ x1 _ X1.out.holds hm1).mono ?_
  rintro e w7 ⟨rY5, rfl, oo, b⟩
  have T := Lib.hid b
  have hs_w7 := T.out.size
  replace X1 := Lib.hid (X1.out.tr T.out (by omega))
  replace X2 := Lib.hid (X2.out.tr T.out (by omega))
  replace Y3 := Lib.hid (Y3.out.tr T.out (by omega))
  replace Y4 := Lib.hid (Y4.out.tr T.out (by omega))
  replace B := Lib.hid (bel_tr B.out T.out (by omega) (by omega))
  have Y5 := Lib.hid oo
  clear oo b
  clear T
  go_wp2_with fail
  refine (eqIntS_ob _ _ (x1) (x1) _ Y3.out.holds Y5.out.holds).mono ?_
  rintro e w8 ⟨rfl, b⟩
  have T := Lib.hid b
  have hs_w8 := T.out.size
  replace X1 := Lib.hid (X1.out.tr T.out (by omega))
  replace X2 := Lib.hid (X2.out.tr T.out (by omega))
  replace Y3 := Lib.hid (Y3.out.tr T.out (by omega))
  replace Y4 := Lib.hid (Y4.out.tr T.out (by omega))
  replace Y5 := Lib.hid (Y5.out.tr T.out (by omega))
  replace B := Lib.hid (bel_tr B.out T.out (by omega) (by omega))
  clear b
  simp only [decide_true]
  clear T
  clear Y5
  go_wp2_with fail
  refine (toIntS_ob _ x2 _ X2.out.holds hm2).mono ?_
  rintro e w9 ⟨rY6, rfl, oo, b⟩
  have T := Lib.hid b
  have hs_w9 := T.out.size
  replace X1 := Lib.hid (X1.out.tr T.out (by omega))
  replace X2 := Lib.hid (X2.out.tr T.out (by omega))
  replace Y3 := Lib.hid (Y3.out.tr T.out (by omega))
  replace Y4 := Lib.hid (Y4.out.tr T.out (by omega))
  replace B := Lib.hid (bel_tr B.out T.out (by omega) (by omega))
  have Y6 := Lib.hid oo
  clear oo b
  clear T
  go_wp2_with fail
  refine (eqIntS_ob _ _ (x2) (x2) _ Y4.out.holds Y6.out.holds).mono ?_
  rintro e w10 ⟨rfl, b⟩
  have T := Lib.hid b
  have hs_w10 := T.out.size
  replace X1 := Lib.hid (X1.out.tr T.out (by omega))
  replace X2 := Lib.hid (X2.out.tr T.out (by omega))
  replace Y3 := Lib.hid (Y3.out.tr T.out (by omega))
  replace Y4 := Lib.hid (Y4.out.tr T.out (by omega))
  replace Y6 := Lib.hid (Y6.out.tr T.out (by omega))
  replace B := Lib.hid (bel_tr B.out T.out (by omega) (by omega))
  clear b
  simp only [decide_true]
  clear T
  clear Y6
  go_wp2
  go_ret
  exact ⟨rfl, B.out⟩

set_option maxRecDepth 100000 in
theorem lifted (os : Os) (started : os.Started) (H : Type) (enc : TypeId × Value → H) :
    ReturnsInHanded {} Try.checked os 5 .any (Rows.fnExactAreAutomorphicSpec.pre6 enc Try.prog Try.f5 Rows.fnExactAreAutomorphicRow.domain false) (Rows.fnExactAreAutomorphicSpec.post enc Try.prog Try.f5 false true false false) := by
  refine returnsInHanded_of_change (C := Try.checked) own started (by kernel_rfl) Try.func5
    (ChangeSpec.witness6 (enc := enc) (C := Try.checked) false ⟨#[], #[.int .i64 0, .slice none 0 0, .slice none 0 0], []⟩ 8 (by kernel_rfl) (by kernel_rfl) (by kernel_rfl) (by kernel_rfl)) ?_
  intro W base args ds gs before hval0 hW hcnd _
  have hval : ∀ (j : Nat) t v, Try.f5.params[j]? = some t → args[j]? = some v → Value.okWide Try.prog W .any base t v := hval0
  have hW' := hW
  obtain ⟨p, q, hA0, hV, rfl, hfz, hnd⟩ := hW
  have hA : DataW.TrodAll enc Try.prog W 0 (fun _ => true) true Try.f5.params.toList args.toList ds p := hA0
  rw [Try.params5] at hA hval
  obtain ⟨v0, vs0, d0, ds0, p0, q0, hargs, rfl, rfl, h0, r0⟩ := trodAll_cons hA
  obtain ⟨v1, vs1, d1, ds1, p1, q1, rfl, rfl, rfl, h1, r1⟩ := trodAll_cons r0
  obtain ⟨v2, vs2, d2, ds2, p2, q2, rfl, rfl, rfl, h2, r2⟩ := trodAll_cons r1
  obtain ⟨rfl, rfl, rfl⟩ := trodAll_nil r2
  obtain rfl : args = #[v0, v1, v2] := by cases args; simp_all
  obtain ⟨rfl, rfl⟩ := trodVars_none hV
  have k0 := h0
  have lt0 : ∀ x ∈ p0, x.block < W.heap.size := by obtain ⟨m, hm⟩ := k0; exact DataW.trod_lt m _ _ _ hm
  obtain ⟨x0, rfl, rfl, rfl, w0⟩ := open_int Try.underlying3 (hval 0 3 v0 rfl rfl) h0
  have k1 := h1
  have lt1 : ∀ x ∈ p1, x.block < W.heap.size := by obtain ⟨m, hm⟩ := k1; exact DataW.trod_lt m _ _ _ hm
  obtain ⟨x1, a1⟩ := open_argI (hval 1 27 v1 rfl rfl) h1
  have k2 := h2
  have lt2 : ∀ x ∈ p2, x.block < W.heap.size := by obtain ⟨m, hm⟩ := k2; exact DataW.trod_lt m _ _ _ hm
  obtain ⟨x2, a2⟩ := open_argI (hval 2 27 v2 rfl rfl) h2
  clear hA0 hval0
  refine (walk x0 v1 x1 v2 x2 W (wf_I64 w0) a1 a2).mono fun e W' ⟨he, bel⟩ => ?_
  subst he
  exact ⟨_, rfl, _, _, _, [], _, [], hW', trodAll_mk1 (shut_bool Try.underlying4 _), (trodAll_cons_mk (Below.trod laidOut (by kernel_rfl) (of_decide_eq_true (by kernel_rfl)) k0 bel lt0) (trodAll_cons_mk (Below.trod laidOut (by kernel_rfl) (of_decide_eq_true (by kernel_rfl)) k1 bel lt1) (trodAll_cons_mk (Below.trod laidOut (by kernel_rfl) (of_decide_eq_true (by kernel_rfl)) k2 bel lt2) trodAll_mk0))), rfl, bel.frame _, fun h => by cases h⟩

/-- The given statement. -/
theorem proved : Rows.FnExactAreAutomorphicSaid :=
  OpenClaim.holds_of_wide 5 Try.f5 rfl rfl rfl rfl rfl rfl rfl ⟨rfl, rfl, rfl, rfl, rfl⟩ rfl rfl rfl rfl rfl (by as_aux_lemma => kernel_rfl) Try.func5 closed
    (of_decide_eq_true (by as_aux_lemma => kernel_rfl)) (by unfold Func.isWrapper; first | (rw [if_pos (by decide +kernel)]; kernel_rfl) | (rw [if_neg (by decide +kernel)]; exact ⟨rfl, rfl⟩))
    (fun os started H enc _ => lifted os started H enc)
#print axioms proved
end Go.Proofs.Ytnmkbkpegkchpaa.fnExactAreAutomorphic
