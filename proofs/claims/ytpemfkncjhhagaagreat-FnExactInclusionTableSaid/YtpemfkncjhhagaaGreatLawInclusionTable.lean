/- The law FnExactInclusionTable: for every input the program answers as the reference, in memory of its own. -/
import Derived.Test.YtpemfkncjhhagaaGreatMarkGS
import Derived.Test.YtpemfkncjhhagaaGreatIncl
import Derived.Test.YtpemfkncjhhagaaGreatFrame
import Derived.Test.YtpemfkncjhhagaaGreatFrameGS
import Derived.Test.YtpemfkncjhhagaaGreatRows
import Derived.Test.YtpemfkncjhhagaaGreatCloInclusionTable
namespace Go.Proofs.YtpemfkncjhhagaaGreat.fnExactInclusionTable
set_option maxRecDepth 20000
set_option linter.unusedVariables false
set_option linter.unusedSimpArgs false
open Go.ChangeShapes Go.WideShapes Go.ChangeAt Go.RowKit
open Go.ChangeMaps (open_string shut_string)

set_option maxHeartbeats 3200000 in
theorem walk (v0 : Value) (x0 : List GrD) (w : World) (h0 : ArgGS w v0 x0) :
    Calls Tryz.prog 3 #[v0] w fun e w' => e = .returned (.bool true) ∧ Below w.heap.size w w' := by
  obtain ⟨Ax0, cx0, rfl⟩ := ArgGS.form h0
  by_cases hz0 : (1048576 : Int) - ((cntGS x0 : Nat) : Int) < 0
  · skip
    go_enter Tryz.func3, Tryz.ntmps3
    go_wp2_with fail
    refine (szGraphS_any _ x0 _ _ (h0.below (by repeat (first | exact Below.refl _ _ | (refine Below.setCell ?_ (by first | omega | (simp <;> omega)) _) | (refine bel_drewN ?_ _) | (refine Below.drew ?_) | (refine Below.alloc ?_ (by first | omega | (simp <;> omega)) _)))) (by omega) (by omega)).mono ?_
    rintro e wz0 ⟨rfl, bz0⟩
    have BZ0 := Lib.hid bz0
    have hzs0 := bz0.size
    have hzq0 : w.heap.size ≤ wz0.heap.size := by first | omega | (have hq := bz0.size; simp at hq; omega)
    simp only [if_pos (show ((1048576 : Int) - ((cntGS x0 : Nat) : Int) < 0) by omega)]
    clear bz0
    go_wp2
    go_ret
    exact ⟨rfl, (by repeat (first | exact Below.refl _ _ | (refine Below.setCell ?_ (by first | omega | (simp <;> omega)) _) | (refine bel_drewN ?_ _) | (refine Below.drew ?_) | (refine Below.alloc ?_ (by first | omega | (simp <;> omega)) _) | (refine Below.trans ?_ (Below.mono (Hid.out BZ0) (by first | omega | (simp <;> omega))))))⟩
  have hm0 : cntGS x0 ≤ 1048576 := by omega
  have hcg0 : cntL cG x0 ≤ 3145728 := by have h := cntGS_cG x0; omega
  have X0 := Lib.hid h0.ob
  clear h0
  have B := Lib.hid (Below.refl w.heap.size w)
  go_enter Tryz.func3, Tryz.ntmps3
  go_wp2_with fail
  refine (szGraphS_ob _ x0 _ _ X0.out.holds (by omega) (by omega)).mono ?_
  rintro e w1 ⟨rfl, b⟩
  have T := Lib.hid (Tr.below b)
  have hs_w1 := T.out.size
  replace X0 := Lib.hid (X0.out.tr T.out (by omega))
  replace B := Lib.hid (bel_tr B.out T.out (by omega) (by omega))
  clear b
  simp only [if_neg (show ¬ ((1048576 : Int) - ((cntGS x0 : Nat) : Int) < 0) by omega)]
  clear T
  go_wp2_with fail
  refine (toGraphS_ob _ x0 _ X0.out.holds hm0).mono ?_
  rintro e w2 ⟨rY1, rfl, oo, b⟩
  have T := Lib.hid b
  have hs_w2 := T.out.size
  replace X0 := Lib.hid (X0.out.tr T.out (by omega))
  replace B := Lib.hid (bel_tr B.out T.out (by omega) (by omega))
  have Y1 := Lib.hid oo
  clear oo b
  clear T
  go_wp2_with fail
  refine (specInclusionTable_any _ x0 _ Y1.out.holds.arg (cntGS_each hm0).1).mono ?_
  rintro e w3 ⟨rS0, rfl, oS0, b⟩
  have T := Lib.hid (Tr.below b)
  have hs_w3 := T.out.size
  replace X0 := Lib.hid (X0.out.tr T.out (by omega))
  replace Y1 := Lib.hid (Y1.out.tr T.out (by omega))
  replace B := Lib.hid (bel_tr B.out T.out (by omega) (by omega))
  have S0 := Lib.hid (OBB.ob oS0)
  clear oS0
  clear b
  clear T
  clear Y1
  go_wp2_with fail
  refine (toGraphS_ob _ x0 _ X0.out.holds hm0).mono ?_
  rintro e w4 ⟨rY2, rfl, oo, b⟩
  have T := Lib.hid b
  have hs_w4 := T.out.size
  replace X0 := Lib.hid (X0.out.tr T.out (by omega))
  replace S0 := Lib.hid (S0.out.tr T.out (by omega))
  replace B := Lib.hid (bel_tr B.out T.out (by omega) (by omega))
  have Y2 := Lib.hid oo
  clear oo b
  clear T
  go_wp2_with fail
  refine (implInclusionTable_any _ x0 _ Y2.out.holds.arg (cntGS_each hm0).1).mono ?_
  rintro e w5 ⟨rG0, rfl, oG0, b⟩
  have T := Lib.hid (Tr.below b)
  have hs_w5 := T.out.size
  replace X0 := Lib.hid (X0.out.tr T.out (by omega))
  replace S0 := Lib.hid (S0.out.tr T.out (by omega))
  replace Y2 := Lib.hid (Y2.out.tr T.out (by omega))
  replace B := Lib.hid (bel_tr B.out T.out (by omega) (by omega))
  have G0 := Lib.hid (OBB.ob oG0)
  clear oG0
  clear b
  clear T
  go_wp2_with fail
  refine (eqBoolSS_ob _ _ (incF x0) (incF x0) _ G0.out S0.out).mono ?_
  rintro e w6 ⟨rfl, b⟩
  have T := Lib.hid b
  have hs_w6 := T.out.size
  replace X0 := Lib.hid (X0.out.tr T.out (by omega))
  replace S0 := Lib.hid (S0.out.tr T.out (by omega))
  replace Y2 := Lib.hid (Y2.out.tr T.out (by omega))
  replace G0 := Lib.hid (G0.out.tr T.out (by omega))
  replace B := Lib.hid (bel_tr B.out T.out (by omega) (by omega))
  clear b
  simp only [decide_true]
  clear T
  go_wp2_with fail
  refine (toGraphS_ob _ x0 _ X0.out.holds hm0).mono ?_
  rintro e w7 ⟨rY3, rfl, oo, b⟩
  have T := Lib.hid b
  have hs_w7 := T.out.size
  replace X0 := Lib.hid (X0.out.tr T.out (by omega))
  replace S0 := Lib.hid (S0.out.tr T.out (by omega))
  replace Y2 := Lib.hid (Y2.out.tr T.out (by omega))
  replace G0 := Lib.hid (G0.out.tr T.out (by omega))
  replace B := Lib.hid (bel_tr B.out T.out (by omega) (by omega))
  have Y3 := Lib.hid oo
  clear oo b
  clear T
  go_wp2_with fail
  refine (eqGraphS_ob _ _ (x0) (x0) _ Y2.out Y3.out).mono ?_
  rintro e w8 ⟨rfl, b⟩
  have T := Lib.hid b
  have hs_w8 := T.out.size
  replace X0 := Lib.hid (X0.out.tr T.out (by omega))
  replace S0 := Lib.hid (S0.out.tr T.out (by omega))
  replace Y2 := Lib.hid (Y2.out.tr T.out (by omega))
  replace G0 := Lib.hid (G0.out.tr T.out (by omega))
  replace Y3 := Lib.hid (Y3.out.tr T.out (by omega))
  replace B := Lib.hid (bel_tr B.out T.out (by omega) (by omega))
  clear b
  simp only [decide_true]
  clear T
  clear Y3
  go_wp2_with fail
  refine (markGraphS_ob _ (x0) _ _ _ _ Y2.out (by first | omega | exact inc_cnt x0 (cntGS_each hm0).1) (by omega) (by omega)).mono ?_
  rintro e w9 ⟨rfl, oo, t⟩
  have T := Lib.hid t
  have hs_w9 := T.out.size
  replace X0 := Lib.hid (X0.out.tr T.out (by omega))
  replace S0 := Lib.hid (S0.out.tr T.out (by omega))
  replace G0 := Lib.hid (G0.out.tr T.out (by omega))
  replace B := Lib.hid (bel_tr B.out T.out (by omega) (by omega))
  replace Y2 := Lib.hid oo
  clear t oo
  clear T
  go_wp2_with fail
  refine (eqBoolSS_ob _ _ (incF x0) (incF x0) _ G0.out S0.out).mono ?_
  rintro e w10 ⟨rfl, b⟩
  have T := Lib.hid b
  have hs_w10 := T.out.size
  replace X0 := Lib.hid (X0.out.tr T.out (by omega))
  replace S0 := Lib.hid (S0.out.tr T.out (by omega))
  replace G0 := Lib.hid (G0.out.tr T.out (by omega))
  replace Y2 := Lib.hid (Y2.out.tr T.out (by omega))
  replace B := Lib.hid (bel_tr B.out T.out (by omega) (by omega))
  clear b
  simp only [decide_true]
  clear T
  go_wp2_with fail
  refine (markBoolSS_ob _ (incF x0) _ _ _ _ G0.out (by first | omega | exact inc_cnt x0 (cntGS_each hm0).1) (by omega) (by omega)).mono ?_
  rintro e w11 ⟨rfl, oo, t⟩
  have T := Lib.hid t
  have hs_w11 := T.out.size
  replace X0 := Lib.hid (X0.out.tr T.out (by omega))
  replace S0 := Lib.hid (S0.out.tr T.out (by omega))
  replace Y2 := Lib.hid (Y2.out.tr T.out (by omega))
  replace B := Lib.hid (bel_tr B.out T.out (by omega) (by omega))
  replace G0 := Lib.hid oo
  clear t oo
  clear T
  go_wp2_with fail
  refine (heldBoolSS_ob _ (incF x0) _ _ _ _ G0.out (by first | omega | exact inc_cnt x0 (cntGS_each hm0).1) (by omega) (by omega)).mono ?_
  rintro e w12 ⟨rfl, b⟩
  have T := Lib.hid b
  have hs_w12 := T.out.size
  replace X0 := Lib.hid (X0.out.tr T.out (by omega))
  replace S0 := Lib.hid (S0.out.tr T.out (by omega))
  replace Y2 := Lib.hid (Y2.out.tr T.out (by omega))
  replace G0 := Lib.hid (G0.out.tr T.out (by omega))
  replace B := Lib.hid (bel_tr B.out T.out (by omega) (by omega))
  clear b
  clear T
  go_wp2_with fail
  refine (toGraphS_ob _ x0 _ X0.out.holds hm0).mono ?_
  rintro e w13 ⟨rY4, rfl, oo, b⟩
  have T := Lib.hid b
  have hs_w13 := T.out.size
  replace X0 := Lib.hid (X0.out.tr T.out (by omega))
  replace S0 := Lib.hid (S0.out.tr T.out (by omega))
  replace Y2 := Lib.hid (Y2.out.tr T.out (by omega))
  replace G0 := Lib.hid (G0.out.tr T.out (by omega))
  replace B := Lib.hid (bel_tr B.out T.out (by omega) (by omega))
  have Y4 := Lib.hid oo
  clear oo b
  clear T
  go_wp2_with fail
  refine (implInclusionTable_any _ x0 _ Y4.out.holds.arg (cntGS_each hm0).1).mono ?_
  rintro e w14 ⟨rH0, rfl, oH0, b⟩
  have T := Lib.hid (Tr.below b)
  have hs_w14 := T.out.size
  replace X0 := Lib.hid (X0.out.tr T.out (by omega))
  replace S0 := Lib.hid (S0.out.tr T.out (by omega))
  replace Y2 := Lib.hid (Y2.out.tr T.out (by omega))
  replace G0 := Lib.hid (G0.out.tr T.out (by omega))
  replace Y4 := Lib.hid (Y4.out.tr T.out (by omega))
  replace B := Lib.hid (bel_tr B.out T.out (by omega) (by omega))
  have H0 := Lib.hid (OBB.ob oH0)
  clear oH0
  clear b
  clear T
  clear Y4
  go_wp2_with fail
  refine (eqBoolSS_ob _ _ (incF x0) (incF x0) _ H0.out S0.out).mono ?_
  rintro e w15 ⟨rfl, b⟩
  have T := Lib.hid b
  have hs_w15 := T.out.size
  replace X0 := Lib.hid (X0.out.tr T.out (by omega))
  replace S0 := Lib.hid (S0.out.tr T.out (by omega))
  replace Y2 := Lib.hid (Y2.out.tr T.out (by omega))
  replace G0 := Lib.hid (G0.out.tr T.out (by omega))
  replace H0 := Lib.hid (H0.out.tr T.out (by omega))
  replace B := Lib.hid (bel_tr B.out T.out (by omega) (by omega))
  clear b
  simp only [decide_true]
  clear T
  go_wp2_with fail
  refine (heldBoolSS_ob _ (incF x0) _ _ _ _ G0.out (by first | omega | exact inc_cnt x0 (cntGS_each hm0).1) (by omega) (by omega)).mono ?_
  rintro e w16 ⟨rfl, b⟩
  have T := Lib.hid b
  have hs_w16 := T.out.size
  replace X0 := Lib.hid (X0.out.tr T.out (by omega))
  replace S0 := Lib.hid (S0.out.tr T.out (by omega))
  replace Y2 := Lib.hid (Y2.out.tr T.out (by omega))
  replace G0 := Lib.hid (G0.out.tr T.out (by omega))
  replace H0 := Lib.hid (H0.out.tr T.out (by omega))
  replace B := Lib.hid (bel_tr B.out T.out (by omega) (by omega))
  clear b
  clear T
  go_wp2
  go_ret
  exact ⟨rfl, B.out⟩

set_option maxRecDepth 100000 in
theorem lifted (os : Os) (started : os.Started) (H : Type) (enc : TypeId × Value → H) :
    ReturnsInHanded {} Tryz.checked os 3 .any (Rows.fnExactInclusionTableSpec.pre6 enc Tryz.prog Tryz.f3 Rows.fnExactInclusionTableRow.domain false) (Rows.fnExactInclusionTableSpec.post enc Tryz.prog Tryz.f3 false true false false) := by
  refine returnsInHanded_of_change (C := Tryz.checked) own started (by kernel_rfl) Tryz.func3
    (ChangeSpec.witness6 (enc := enc) (C := Tryz.checked) false ⟨#[], #[.slice none 0 0], []⟩ 8 (by kernel_rfl) (by kernel_rfl) (by kernel_rfl) (by kernel_rfl)) ?_
  intro W base args ds gs before hval0 hW hcnd _
  have hval : ∀ (j : Nat) t v, Tryz.f3.params[j]? = some t → args[j]? = some v → Value.okWide Tryz.prog W .any base t v := hval0
  have hW' := hW
  obtain ⟨p, q, hA0, hV, rfl, hfz, hnd⟩ := hW
  have hA : DataW.TrodAll enc Tryz.prog W 0 (fun _ => true) true Tryz.f3.params.toList args.toList ds p := hA0
  rw [Tryz.params3] at hA hval
  obtain ⟨v0, vs0, d0, ds0, p0, q0, hargs, rfl, rfl, h0, r0⟩ := trodAll_cons hA
  obtain ⟨rfl, rfl, rfl⟩ := trodAll_nil r0
  obtain rfl : args = #[v0] := by cases args; simp_all
  obtain ⟨rfl, rfl⟩ := trodVars_none hV
  have k0 := h0
  have lt0 : ∀ x ∈ p0, x.block < W.heap.size := by obtain ⟨m, hm⟩ := k0; exact DataW.trod_lt m _ _ _ hm
  obtain ⟨x0, a0⟩ := open_argGS (hval 0 22 v0 rfl rfl) h0
  clear hA0 hval0
  refine (walk v0 x0 W a0).mono fun e W' ⟨he, bel⟩ => ?_
  subst he
  exact ⟨_, rfl, _, _, _, [], _, [], hW', trodAll_mk1 (shut_bool Tryz.underlying4 _), (trodAll_cons_mk (Below.trod laidOut (by kernel_rfl) (of_decide_eq_true (by kernel_rfl)) k0 bel lt0) trodAll_mk0), rfl, bel.frame _, fun h => by cases h⟩

/-- The given statement. -/
theorem proved : Rows.FnExactInclusionTableSaid :=
  OpenClaim.holds_of_wide 3 Tryz.f3 rfl rfl rfl rfl rfl rfl rfl ⟨rfl, rfl, rfl, rfl, rfl⟩ rfl rfl rfl rfl rfl (by as_aux_lemma => kernel_rfl) Tryz.func3 closed
    (of_decide_eq_true (by as_aux_lemma => kernel_rfl)) (by unfold Func.isWrapper; first | (rw [if_pos (by decide +kernel)]; kernel_rfl) | (rw [if_neg (by decide +kernel)]; exact ⟨rfl, rfl⟩))
    (fun os started H enc _ => lifted os started H enc)
#print axioms proved
end Go.Proofs.YtpemfkncjhhagaaGreat.fnExactInclusionTable
