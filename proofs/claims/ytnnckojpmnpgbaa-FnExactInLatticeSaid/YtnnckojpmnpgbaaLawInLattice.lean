/- The law FnExactInLattice: for every input the program answers as the reference, in memory of its own. -/
import Derived.Test.YtnnckojpmnpgbaaIIL
import Derived.Test.YtnnckojpmnpgbaaHerI
import Derived.Test.YtnnckojpmnpgbaaHerL
import Derived.Test.YtnnckojpmnpgbaaFrame
import Derived.Test.YtnnckojpmnpgbaaFrameII
import Derived.Test.YtnnckojpmnpgbaaRows
import Derived.Test.YtnnckojpmnpgbaaCloInLattice
namespace Go.Proofs.Ytnnckojpmnpgbaa.fnExactInLattice
set_option maxRecDepth 20000
set_option linter.unusedVariables false
set_option linter.unusedSimpArgs false
open Go.ChangeShapes Go.WideShapes Go.ChangeAt Go.RowKit
open Go.ChangeMaps (open_string shut_string)

set_option maxHeartbeats 3200000 in
theorem walk (v0 : Value) (x0 : List (List Int)) (v1 : Value) (x1 : List Int) (w : World) (h0 : ArgII w v0 x0) (h1 : ArgI w v1 x1) :
    Calls Try.prog 4 #[v0, v1] w fun e w' => e = .returned (.bool true) ∧ Below w.heap.size w w' := by
  obtain ⟨Ax0, cx0, rfl⟩ := ArgII.form h0
  obtain ⟨Ax1, cx1, rfl⟩ := ArgI.form h1
  by_cases hl1 : 1048576 < x1.length
  · have hdl1 : (1048576 : Int) < (x1.length : Int) := by omega
    go_enter Try.func4, Try.ntmps4
    go_wp2
    go_ret
    exact ⟨rfl, (by repeat (first | exact Below.refl _ _ | (refine Below.setCell ?_ (by first | omega | (simp <;> omega)) _) | (refine bel_drewN ?_ _) | (refine Below.drew ?_) | (refine Below.alloc ?_ (by first | omega | (simp <;> omega)) _)))⟩
  have hm1 : x1.length ≤ 1048576 := by omega
  by_cases hz0 : (1048576 : Int) - ((cntLL x0 : Nat) : Int) < 0
  · skip
    go_enter Try.func4, Try.ntmps4
    go_wp2_with fail
    refine (szIntSS_any _ x0 _ _ (h0.below (by repeat (first | exact Below.refl _ _ | (refine Below.setCell ?_ (by first | omega | (simp <;> omega)) _) | (refine bel_drewN ?_ _) | (refine Below.drew ?_) | (refine Below.alloc ?_ (by first | omega | (simp <;> omega)) _)))) (by omega) (by omega)).mono ?_
    rintro e wz0 ⟨rfl, bz0⟩
    have BZ0 := Lib.hid bz0
    have hzs0 := bz0.size
    have hzq0 : w.heap.size ≤ wz0.heap.size := by first | omega | (have hq := bz0.size; simp at hq; omega)
    simp only [if_pos (show ((1048576 : Int) - ((cntLL x0 : Nat) : Int) < 0) by omega)]
    clear bz0
    go_wp2
    go_ret
    exact ⟨rfl, (by repeat (first | exact Below.refl _ _ | (refine Below.setCell ?_ (by first | omega | (simp <;> omega)) _) | (refine bel_drewN ?_ _) | (refine Below.drew ?_) | (refine Below.alloc ?_ (by first | omega | (simp <;> omega)) _) | (refine Below.trans ?_ (Below.mono (Hid.out BZ0) (by first | omega | (simp <;> omega))))))⟩
  have hm0 : cntLL x0 ≤ 1048576 := by omega
  have hc0 : cntL cI x0 ≤ 1048576 := by have h := hm0; unfold cntLL at h; omega
  have X0 := Lib.hid h0.ob
  clear h0
  have X1 := Lib.hid h1.ob
  clear h1
  have B := Lib.hid (Below.refl w.heap.size w)
  go_enter Try.func4, Try.ntmps4
  go_wp2_with fail
  refine (szIntSS_ob _ x0 _ _ X0.out.holds (by omega) (by omega)).mono ?_
  rintro e w1 ⟨rfl, b⟩
  have T := Lib.hid (Tr.below b)
  have hs_w1 := T.out.size
  replace X0 := Lib.hid (X0.out.tr T.out (by omega))
  replace X1 := Lib.hid (X1.out.tr T.out (by omega))
  replace B := Lib.hid (bel_tr B.out T.out (by omega) (by omega))
  clear b
  simp only [if_neg (show ¬ ((1048576 : Int) - ((cntLL x0 : Nat) : Int) < 0) by omega)]
  clear T
  go_wp2_with fail
  refine (toIntSS_ob _ x0 _ X0.out.holds hm0).mono ?_
  rintro e w2 ⟨rY1, rfl, oo, b⟩
  have T := Lib.hid b
  have hs_w2 := T.out.size
  replace X0 := Lib.hid (X0.out.tr T.out (by omega))
  replace X1 := Lib.hid (X1.out.tr T.out (by omega))
  replace B := Lib.hid (bel_tr B.out T.out (by omega) (by omega))
  have Y1 := Lib.hid oo
  clear oo b
  clear T
  go_wp2_with fail
  refine (toIntS_ob _ x1 _ X1.out.holds hm1).mono ?_
  rintro e w3 ⟨rY2, rfl, oo, b⟩
  have T := Lib.hid b
  have hs_w3 := T.out.size
  replace X0 := Lib.hid (X0.out.tr T.out (by omega))
  replace X1 := Lib.hid (X1.out.tr T.out (by omega))
  replace Y1 := Lib.hid (Y1.out.tr T.out (by omega))
  replace B := Lib.hid (bel_tr B.out T.out (by omega) (by omega))
  have Y2 := Lib.hid oo
  clear oo b
  clear T
  go_wp2_with fail
  refine (specInLattice_any _ _ x0 x1 _ Y1.out.holds.rd Y2.out.holds.1.rd (by have := (cntLL_each hm0).1; omega) (fun r hr => by have := (cntLL_each hm0).2 r hr; omega) (by omega)).mono ?_
  rintro e w4 ⟨rfl, b⟩
  have T := Lib.hid (Tr.below b)
  have hs_w4 := T.out.size
  replace X0 := Lib.hid (X0.out.tr T.out (by omega))
  replace X1 := Lib.hid (X1.out.tr T.out (by omega))
  replace Y1 := Lib.hid (Y1.out.tr T.out (by omega))
  replace Y2 := Lib.hid (Y2.out.tr T.out (by omega))
  replace B := Lib.hid (bel_tr B.out T.out (by omega) (by omega))
  clear b
  clear T
  clear Y1
  clear Y2
  go_wp2_with fail
  refine (toIntSS_ob _ x0 _ X0.out.holds hm0).mono ?_
  rintro e w5 ⟨rY3, rfl, oo, b⟩
  have T := Lib.hid b
  have hs_w5 := T.out.size
  replace X0 := Lib.hid (X0.out.tr T.out (by omega))
  replace X1 := Lib.hid (X1.out.tr T.out (by omega))
  replace B := Lib.hid (bel_tr B.out T.out (by omega) (by omega))
  have Y3 := Lib.hid oo
  clear oo b
  clear T
  go_wp2_with fail
  refine (toIntS_ob _ x1 _ X1.out.holds hm1).mono ?_
  rintro e w6 ⟨rY4, rfl, oo, b⟩
  have T := Lib.hid b
  have hs_w6 := T.out.size
  replace X0 := Lib.hid (X0.out.tr T.out (by omega))
  replace X1 := Lib.hid (X1.out.tr T.out (by omega))
  replace Y3 := Lib.hid (Y3.out.tr T.out (by omega))
  replace B := Lib.hid (bel_tr B.out T.out (by omega) (by omega))
  have Y4 := Lib.hid oo
  clear oo b
  clear T
  go_wp2_with fail
  refine (implInLattice_any _ _ x0 x1 _ Y3.out.holds.rd Y4.out.holds.1.rd (by have := (cntLL_each hm0).1; omega) (fun r hr => by have := (cntLL_each hm0).2 r hr; omega) (by omega)).mono ?_
  rintro e w7 ⟨rfl, b⟩
  have T := Lib.hid (Tr.below b)
  have hs_w7 := T.out.size
  replace X0 := Lib.hid (X0.out.tr T.out (by omega))
  replace X1 := Lib.hid (X1.out.tr T.out (by omega))
  replace Y3 := Lib.hid (Y3.out.tr T.out (by omega))
  replace Y4 := Lib.hid (Y4.out.tr T.out (by omega))
  replace B := Lib.hid (bel_tr B.out T.out (by omega) (by omega))
  clear b
  clear T
  go_wp2_with fail
  refine (toIntSS_ob _ x0 _ X0.out.holds hm0).mono ?_
  rintro e w8 ⟨rY5, rfl, oo, b⟩
  have T := Lib.hid b
  have hs_w8 := T.out.size
  replace X0 := Lib.hid (X0.out.tr T.out (by omega))
  replace X1 := Lib.hid (X1.out.tr T.out (by omega))
  replace Y3 := Lib.hid (Y3.out.tr T.out (by omega))
  replace Y4 := Lib.hid (Y4.out.tr T.out (by omega))
  replace B := Lib.hid (bel_tr B.out T.out (by omega) (by omega))
  have Y5 := Lib.hid oo
  clear oo b
  clear T
  go_wp2_with fail
  refine (eqIntSS_ob _ _ (x0) (x0) _ Y3.out Y5.out).mono ?_
  rintro e w9 ⟨rfl, b⟩
  have T := Lib.hid b
  have hs_w9 := T.out.size
  replace X0 := Lib.hid (X0.out.tr T.out (by omega))
  replace X1 := Lib.hid (X1.out.tr T.out (by omega))
  replace Y3 := Lib.hid (Y3.out.tr T.out (by omega))
  replace Y4 := Lib.hid (Y4.out.tr T.out (by omega))
  replace Y5 := Lib.hid (Y5.out.tr T.out (by omega))
  replace B := Lib.hid (bel_tr B.out T.out (by omega) (by omega))
  clear b
  simp only [decide_true]
  clear T
  clear Y5
  go_wp2_with fail
  refine (toIntS_ob _ x1 _ X1.out.holds hm1).mono ?_
  rintro e w10 ⟨rY6, rfl, oo, b⟩
  have T := Lib.hid b
  have hs_w10 := T.out.size
  replace X0 := Lib.hid (X0.out.tr T.out (by omega))
  replace X1 := Lib.hid (X1.out.tr T.out (by omega))
  replace Y3 := Lib.hid (Y3.out.tr T.out (by omega))
  replace Y4 := Lib.hid (Y4.out.tr T.out (by omega))
  replace B := Lib.hid (bel_tr B.out T.out (by omega) (by omega))
  have Y6 := Lib.hid oo
  clear oo b
  clear T
  go_wp2_with fail
  refine (eqIntS_ob _ _ (x1) (x1) _ Y4.out.holds Y6.out.holds).mono ?_
  rintro e w11 ⟨rfl, b⟩
  have T := Lib.hid b
  have hs_w11 := T.out.size
  replace X0 := Lib.hid (X0.out.tr T.out (by omega))
  replace X1 := Lib.hid (X1.out.tr T.out (by omega))
  replace Y3 := Lib.hid (Y3.out.tr T.out (by omega))
  replace Y4 := Lib.hid (Y4.out.tr T.out (by omega))
  replace Y6 := Lib.hid (Y6.out.tr T.out (by omega))
  replace B := Lib.hid (bel_tr B.out T.out (by omega) (by omega))
  clear b
  simp only [decide_true]
  clear T
  clear Y6
  go_wp2
  go_ret
  exact ⟨rfl, B.out⟩

set_option maxRecDepth 100000 in
theorem lifted (os : Os) (started : os.Started) (H : Type) (enc : TypeId × Value → H) :
    ReturnsInHanded {} Try.checked os 4 .any (Rows.fnExactInLatticeSpec.pre6 enc Try.prog Try.f4 Rows.fnExactInLatticeRow.domain false) (Rows.fnExactInLatticeSpec.post enc Try.prog Try.f4 false true false false) := by
  refine returnsInHanded_of_change (C := Try.checked) own started (by kernel_rfl) Try.func4
    (ChangeSpec.witness6 (enc := enc) (C := Try.checked) false ⟨#[], #[.slice none 0 0, .slice none 0 0], []⟩ 8 (by kernel_rfl) (by kernel_rfl) (by kernel_rfl) (by kernel_rfl)) ?_
  intro W base args ds gs before hval0 hW hcnd _
  have hval : ∀ (j : Nat) t v, Try.f4.params[j]? = some t → args[j]? = some v → Value.okWide Try.prog W .any base t v := hval0
  have hW' := hW
  obtain ⟨p, q, hA0, hV, rfl, hfz, hnd⟩ := hW
  have hA : DataW.TrodAll enc Try.prog W 0 (fun _ => true) true Try.f4.params.toList args.toList ds p := hA0
  rw [Try.params4] at hA hval
  obtain ⟨v0, vs0, d0, ds0, p0, q0, hargs, rfl, rfl, h0, r0⟩ := trodAll_cons hA
  obtain ⟨v1, vs1, d1, ds1, p1, q1, rfl, rfl, rfl, h1, r1⟩ := trodAll_cons r0
  obtain ⟨rfl, rfl, rfl⟩ := trodAll_nil r1
  obtain rfl : args = #[v0, v1] := by cases args; simp_all
  obtain ⟨rfl, rfl⟩ := trodVars_none hV
  have k0 := h0
  have lt0 : ∀ x ∈ p0, x.block < W.heap.size := by obtain ⟨m, hm⟩ := k0; exact DataW.trod_lt m _ _ _ hm
  obtain ⟨x0, a0⟩ := open_argII (hval 0 22 v0 rfl rfl) h0
  have k1 := h1
  have lt1 : ∀ x ∈ p1, x.block < W.heap.size := by obtain ⟨m, hm⟩ := k1; exact DataW.trod_lt m _ _ _ hm
  obtain ⟨x1, a1⟩ := open_argI (hval 1 27 v1 rfl rfl) h1
  clear hA0 hval0
  refine (walk v0 x0 v1 x1 W a0 a1).mono fun e W' ⟨he, bel⟩ => ?_
  subst he
  exact ⟨_, rfl, _, _, _, [], _, [], hW', trodAll_mk1 (shut_bool Try.underlying4 _), (trodAll_cons_mk (Below.trod laidOut (by kernel_rfl) (of_decide_eq_true (by kernel_rfl)) k0 bel lt0) (trodAll_cons_mk (Below.trod laidOut (by kernel_rfl) (of_decide_eq_true (by kernel_rfl)) k1 bel lt1) trodAll_mk0)), rfl, bel.frame _, fun h => by cases h⟩

/-- The given statement. -/
theorem proved : Rows.FnExactInLatticeSaid :=
  OpenClaim.holds_of_wide 4 Try.f4 rfl rfl rfl rfl rfl rfl rfl ⟨rfl, rfl, rfl, rfl, rfl⟩ rfl rfl rfl rfl rfl (by as_aux_lemma => kernel_rfl) Try.func4 closed
    (of_decide_eq_true (by as_aux_lemma => kernel_rfl)) (by unfold Func.isWrapper; first | (rw [if_pos (by decide +kernel)]; kernel_rfl) | (rw [if_neg (by decide +kernel)]; exact ⟨rfl, rfl⟩))
    (fun os started H enc _ => lifted os started H enc)
#print axioms proved
end Go.Proofs.Ytnnckojpmnpgbaa.fnExactInLattice
