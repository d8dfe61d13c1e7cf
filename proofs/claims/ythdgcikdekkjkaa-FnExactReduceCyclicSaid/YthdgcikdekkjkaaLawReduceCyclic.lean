/- The law FnExactReduceCyclic: for every input the program answers as the reference, in memory of its own. -/
import Derived.Test.YthdgcikdekkjkaaLaw
import Derived.Test.YthdgcikdekkjkaaRed
import Derived.Test.YthdgcikdekkjkaaPair
import Derived.Test.YthdgcikdekkjkaaFrame
import Derived.Test.YthdgcikdekkjkaaRows
import Derived.Test.YthdgcikdekkjkaaCloReduceCyclic
namespace Go.Proofs.Ythdgcikdekkjkaa.fnExactReduceCyclic
set_option maxRecDepth 20000
set_option linter.unusedVariables false
set_option linter.unusedSimpArgs false
open Go.ChangeShapes Go.WideShapes Go.ChangeAt Go.RowKit
open Go.ChangeMaps (open_string shut_string)

set_option maxHeartbeats 3200000 in
theorem walk (x0 : Int) (v1 : Value) (x1 : List Int) (w : World) (hx0 : I64 x0) (h1 : ArgI w v1 x1) :
    Calls Try.prog 16 #[.int .i64 x0, v1] w fun e w' => e = .returned (.bool true) ∧ Below w.heap.size w w' := by
  obtain ⟨Ax1, cx1, rfl⟩ := ArgI.form h1
  by_cases hl1 : 1048576 < x1.length
  · have hdl1 : (1048576 : Int) < (x1.length : Int) := by omega
    go_enter Try.func16, Try.ntmps16
    go_wp2
    go_ret
    exact ⟨rfl, (by repeat (first | exact Below.refl _ _ | (refine Below.setCell ?_ (by first | omega | (simp <;> omega)) _) | (refine bel_drewN ?_ _) | (refine Below.drew ?_) | (refine Below.alloc ?_ (by first | omega | (simp <;> omega)) _)))⟩
  have hm1 : x1.length ≤ 1048576 := by omega
  have X1 := Lib.hid h1.ob
  clear h1
  have B := Lib.hid (Below.refl w.heap.size w)
  have hz0 := redF_form x0 x1
  have hz1 := redF_cnt x0 x1
  go_enter Try.func16, Try.ntmps16
  go_wp2_with fail
  refine (toIntS_ob _ x1 _ X1.out.holds hm1).mono ?_
  rintro e w1 ⟨rY1, rfl, oo, b⟩
  have T := Lib.hid b
  have hs_w1 := T.out.size
  replace X1 := Lib.hid (X1.out.tr T.out (by omega))
  replace B := Lib.hid (bel_tr B.out T.out (by omega) (by omega))
  have Y1 := Lib.hid oo
  clear oo b
  clear T
  go_wp2_with fail
  refine (specReduceCyclic_any x0 _ x1 _ hx0 Y1.out.holds.1.rd (by omega)).mono ?_
  rintro e w2 ⟨rS0, rS1, rfl, oS0, oS1, b⟩
  have T := Lib.hid (Tr.below b)
  have hs_w2 := T.out.size
  replace X1 := Lib.hid (X1.out.tr T.out (by omega))
  replace Y1 := Lib.hid (Y1.out.tr T.out (by omega))
  replace B := Lib.hid (bel_tr B.out T.out (by omega) (by omega))
  have S0 := Lib.hid oS0.ob
  have S1 := Lib.hid (OWhS.ob oS1)
  clear oS0
  clear oS1
  clear b
  clear T
  clear Y1
  go_wp2_with fail
  refine (toIntS_ob _ x1 _ X1.out.holds hm1).mono ?_
  rintro e w3 ⟨rY2, rfl, oo, b⟩
  have T := Lib.hid b
  have hs_w3 := T.out.size
  replace X1 := Lib.hid (X1.out.tr T.out (by omega))
  replace S0 := Lib.hid (S0.out.tr T.out (by omega))
  replace S1 := Lib.hid (S1.out.tr T.out (by omega))
  replace B := Lib.hid (bel_tr B.out T.out (by omega) (by omega))
  have Y2 := Lib.hid oo
  clear oo b
  clear T
  go_wp2_with fail
  refine (implReduceCyclic_sep x0 _ x1 _ hx0 Y2.out.holds.1.rd (by omega)).mono ?_
  rintro e w4 ⟨rG0, rG1, rfl, oG0, oG1, b⟩
  have T := Lib.hid (Tr.below b)
  have hs_w4 := T.out.size
  replace X1 := Lib.hid (X1.out.tr T.out (by omega))
  replace S0 := Lib.hid (S0.out.tr T.out (by omega))
  replace S1 := Lib.hid (S1.out.tr T.out (by omega))
  replace Y2 := Lib.hid (Y2.out.tr T.out (by omega))
  replace B := Lib.hid (bel_tr B.out T.out (by omega) (by omega))
  have G := Lib.hid (OPr.new oG0 oG1)
  clear oG0
  clear oG1
  clear b
  clear T
  go_wp2_with fail
  refine (eqIntS_ob _ _ ((redF x0 x1).1) ((redF x0 x1).1) _ (OPr.fst G.out).holds S0.out.holds).mono ?_
  rintro e w5 ⟨rfl, b⟩
  have T := Lib.hid b
  have hs_w5 := T.out.size
  replace X1 := Lib.hid (X1.out.tr T.out (by omega))
  replace S0 := Lib.hid (S0.out.tr T.out (by omega))
  replace S1 := Lib.hid (S1.out.tr T.out (by omega))
  replace Y2 := Lib.hid (Y2.out.tr T.out (by omega))
  replace G := Lib.hid (G.out.tr T.out (by omega))
  replace B := Lib.hid (bel_tr B.out T.out (by omega) (by omega))
  clear b
  simp only [decide_true]
  clear T
  go_wp2_with fail
  refine (eqWhiteheadS_ob _ _ ((redF x0 x1).2) ((redF x0 x1).2) _ (OPr.snd G.out) S1.out).mono ?_
  rintro e w6 ⟨rfl, b⟩
  have T := Lib.hid b
  have hs_w6 := T.out.size
  replace X1 := Lib.hid (X1.out.tr T.out (by omega))
  replace S0 := Lib.hid (S0.out.tr T.out (by omega))
  replace S1 := Lib.hid (S1.out.tr T.out (by omega))
  replace Y2 := Lib.hid (Y2.out.tr T.out (by omega))
  replace G := Lib.hid (G.out.tr T.out (by omega))
  replace B := Lib.hid (bel_tr B.out T.out (by omega) (by omega))
  clear b
  simp only [decide_true]
  clear T
  go_wp2_with fail
  refine (toIntS_ob _ x1 _ X1.out.holds hm1).mono ?_
  rintro e w7 ⟨rY3, rfl, oo, b⟩
  have T := Lib.hid b
  have hs_w7 := T.out.size
  replace X1 := Lib.hid (X1.out.tr T.out (by omega))
  replace S0 := Lib.hid (S0.out.tr T.out (by omega))
  replace S1 := Lib.hid (S1.out.tr T.out (by omega))
  replace Y2 := Lib.hid (Y2.out.tr T.out (by omega))
  replace G := Lib.hid (G.out.tr T.out (by omega))
  replace B := Lib.hid (bel_tr B.out T.out (by omega) (by omega))
  have Y3 := Lib.hid oo
  clear oo b
  clear T
  go_wp2_with fail
  refine (eqIntS_ob _ _ (x1) (x1) _ Y2.out.holds Y3.out.holds).mono ?_
  rintro e w8 ⟨rfl, b⟩
  have T := Lib.hid b
  have hs_w8 := T.out.size
  replace X1 := Lib.hid (X1.out.tr T.out (by omega))
  replace S0 := Lib.hid (S0.out.tr T.out (by omega))
  replace S1 := Lib.hid (S1.out.tr T.out (by omega))
  replace Y2 := Lib.hid (Y2.out.tr T.out (by omega))
  replace G := Lib.hid (G.out.tr T.out (by omega))
  replace Y3 := Lib.hid (Y3.out.tr T.out (by omega))
  replace B := Lib.hid (bel_tr B.out T.out (by omega) (by omega))
  clear b
  simp only [decide_true]
  clear T
  clear Y3
  go_wp2_with fail
  refine (markIntS_ob _ (x1) _ _ _ _ Y2.out (by first | omega | exact size_ok) (by omega) (by omega)).mono ?_
  rintro e w9 ⟨rfl, oo, t⟩
  have T := Lib.hid t
  have hs_w9 := T.out.size
  replace X1 := Lib.hid (X1.out.tr T.out (by omega))
  replace S0 := Lib.hid (S0.out.tr T.out (by omega))
  replace S1 := Lib.hid (S1.out.tr T.out (by omega))
  replace G := Lib.hid (G.out.tr T.out (by omega))
  replace B := Lib.hid (bel_tr B.out T.out (by omega) (by omega))
  replace Y2 := Lib.hid oo
  clear t oo
  clear T
  go_wp2_with fail
  refine (eqIntS_ob _ _ ((redF x0 x1).1) ((redF x0 x1).1) _ (OPr.fst G.out).holds S0.out.holds).mono ?_
  rintro e w10 ⟨rfl, b⟩
  have T := Lib.hid b
  have hs_w10 := T.out.size
  replace X1 := Lib.hid (X1.out.tr T.out (by omega))
  replace S0 := Lib.hid (S0.out.tr T.out (by omega))
  replace S1 := Lib.hid (S1.out.tr T.out (by omega))
  replace G := Lib.hid (G.out.tr T.out (by omega))
  replace Y2 := Lib.hid (Y2.out.tr T.out (by omega))
  replace B := Lib.hid (bel_tr B.out T.out (by omega) (by omega))
  clear b
  simp only [decide_true]
  clear T
  go_wp2_with fail
  refine (eqWhiteheadS_ob _ _ ((redF x0 x1).2) ((redF x0 x1).2) _ (OPr.snd G.out) S1.out).mono ?_
  rintro e w11 ⟨rfl, b⟩
  have T := Lib.hid b
  have hs_w11 := T.out.size
  replace X1 := Lib.hid (X1.out.tr T.out (by omega))
  replace S0 := Lib.hid (S0.out.tr T.out (by omega))
  replace S1 := Lib.hid (S1.out.tr T.out (by omega))
  replace G := Lib.hid (G.out.tr T.out (by omega))
  replace Y2 := Lib.hid (Y2.out.tr T.out (by omega))
  replace B := Lib.hid (bel_tr B.out T.out (by omega) (by omega))
  clear b
  simp only [decide_true]
  clear T
  go_wp2_with fail
  refine (markIntS_pr _ _ ((redF x0 x1).1) ((redF x0 x1).2) _ _ _ _ G.out (Nat.le_trans hz0 (by decide)) (by omega) (by omega)).mono ?_
  rintro e w12 ⟨rfl, oo, t⟩
  have T := Lib.hid t
  have hs_w12 := T.out.size
  replace X1 := Lib.hid (X1.out.tr T.out (by omega))
  replace S0 := Lib.hid (S0.out.tr T.out (by omega))
  replace S1 := Lib.hid (S1.out.tr T.out (by omega))
  replace Y2 := Lib.hid (Y2.out.tr T.out (by omega))
  replace B := Lib.hid (bel_tr B.out T.out (by omega) (by omega))
  replace G := Lib.hid oo
  clear t oo
  clear T
  go_wp2_with fail
  refine (markWhiteheadS_pr _ _ (iota 1 (redF x0 x1).1.length) ((redF x0 x1).2) _ _ _ _ G.out hz1 (by omega) (by omega)).mono ?_
  rintro e w13 ⟨rfl, oo, t⟩
  have T := Lib.hid t
  have hs_w13 := T.out.size
  replace X1 := Lib.hid (X1.out.tr T.out (by omega))
  replace S0 := Lib.hid (S0.out.tr T.out (by omega))
  replace S1 := Lib.hid (S1.out.tr T.out (by omega))
  replace Y2 := Lib.hid (Y2.out.tr T.out (by omega))
  replace B := Lib.hid (bel_tr B.out T.out (by omega) (by omega))
  replace G := Lib.hid oo
  clear t oo
  clear T
  go_wp2_with fail
  refine (heldIntS_ob _ ((redF x0 x1).1) _ _ _ _ (OPr.fst G.out) (Nat.le_trans hz0 (by decide)) (by omega) (by omega)).mono ?_
  rintro e w14 ⟨rfl, b⟩
  have T := Lib.hid b
  have hs_w14 := T.out.size
  replace X1 := Lib.hid (X1.out.tr T.out (by omega))
  replace S0 := Lib.hid (S0.out.tr T.out (by omega))
  replace S1 := Lib.hid (S1.out.tr T.out (by omega))
  replace Y2 := Lib.hid (Y2.out.tr T.out (by omega))
  replace G := Lib.hid (G.out.tr T.out (by omega))
  replace B := Lib.hid (bel_tr B.out T.out (by omega) (by omega))
  clear b
  clear T
  go_wp2_with fail
  refine (heldWhiteheadS_ob _ ((redF x0 x1).2) _ _ _ _ (OPr.snd G.out) hz1 (by omega) (by omega)).mono ?_
  rintro e w15 ⟨rfl, b⟩
  have T := Lib.hid b
  have hs_w15 := T.out.size
  replace X1 := Lib.hid (X1.out.tr T.out (by omega))
  replace S0 := Lib.hid (S0.out.tr T.out (by omega))
  replace S1 := Lib.hid (S1.out.tr T.out (by omega))
  replace Y2 := Lib.hid (Y2.out.tr T.out (by omega))
  replace G := Lib.hid (G.out.tr T.out (by omega))
  replace B := Lib.hid (bel_tr B.out T.out (by omega) (by omega))
  clear b
  clear T
  go_wp2_with fail
  refine (toIntS_ob _ x1 _ X1.out.holds hm1).mono ?_
  rintro e w16 ⟨rY4, rfl, oo, b⟩
  have T := Lib.hid b
  have hs_w16 := T.out.size
  replace X1 := Lib.hid (X1.out.tr T.out (by omega))
  replace S0 := Lib.hid (S0.out.tr T.out (by omega))
  replace S1 := Lib.hid (S1.out.tr T.out (by omega))
  replace Y2 := Lib.hid (Y2.out.tr T.out (by omega))
  replace G := Lib.hid (G.out.tr T.out (by omega))
  replace B := Lib.hid (bel_tr B.out T.out (by omega) (by omega))
  have Y4 := Lib.hid oo
  clear oo b
  clear T
  go_wp2_with fail
  refine (implReduceCyclic_any x0 _ x1 _ hx0 Y4.out.holds.1.rd (by omega)).mono ?_
  rintro e w17 ⟨rH0, rH1, rfl, oH0, oH1, b⟩
  have T := Lib.hid (Tr.below b)
  have hs_w17 := T.out.size
  replace X1 := Lib.hid (X1.out.tr T.out (by omega))
  replace S0 := Lib.hid (S0.out.tr T.out (by omega))
  replace S1 := Lib.hid (S1.out.tr T.out (by omega))
  replace Y2 := Lib.hid (Y2.out.tr T.out (by omega))
  replace G := Lib.hid (G.out.tr T.out (by omega))
  replace Y4 := Lib.hid (Y4.out.tr T.out (by omega))
  replace B := Lib.hid (bel_tr B.out T.out (by omega) (by omega))
  have H0 := Lib.hid oH0.ob
  have H1 := Lib.hid (OWhS.ob oH1)
  clear oH0
  clear oH1
  clear b
  clear T
  clear Y4
  go_wp2_with fail
  refine (eqIntS_ob _ _ ((redF x0 x1).1) ((redF x0 x1).1) _ H0.out.holds S0.out.holds).mono ?_
  rintro e w18 ⟨rfl, b⟩
  have T := Lib.hid b
  have hs_w18 := T.out.size
  replace X1 := Lib.hid (X1.out.tr T.out (by omega))
  replace S0 := Lib.hid (S0.out.tr T.out (by omega))
  replace S1 := Lib.hid (S1.out.tr T.out (by omega))
  replace Y2 := Lib.hid (Y2.out.tr T.out (by omega))
  replace G := Lib.hid (G.out.tr T.out (by omega))
  replace H0 := Lib.hid (H0.out.tr T.out (by omega))
  replace H1 := Lib.hid (H1.out.tr T.out (by omega))
  replace B := Lib.hid (bel_tr B.out T.out (by omega) (by omega))
  clear b
  simp only [decide_true]
  clear T
  go_wp2_with fail
  refine (eqWhiteheadS_ob _ _ ((redF x0 x1).2) ((redF x0 x1).2) _ H1.out S1.out).mono ?_
  rintro e w19 ⟨rfl, b⟩
  have T := Lib.hid b
  have hs_w19 := T.out.size
  replace X1 := Lib.hid (X1.out.tr T.out (by omega))
  replace S0 := Lib.hid (S0.out.tr T.out (by omega))
  replace S1 := Lib.hid (S1.out.tr T.out (by omega))
  replace Y2 := Lib.hid (Y2.out.tr T.out (by omega))
  replace G := Lib.hid (G.out.tr T.out (by omega))
  replace H0 := Lib.hid (H0.out.tr T.out (by omega))
  replace H1 := Lib.hid (H1.out.tr T.out (by omega))
  replace B := Lib.hid (bel_tr B.out T.out (by omega) (by omega))
  clear b
  simp only [decide_true]
  clear T
  go_wp2_with fail
  refine (heldIntS_ob _ ((redF x0 x1).1) _ _ _ _ (OPr.fst G.out) (Nat.le_trans hz0 (by decide)) (by omega) (by omega)).mono ?_
  rintro e w20 ⟨rfl, b⟩
  have T := Lib.hid b
  have hs_w20 := T.out.size
  replace X1 := Lib.hid (X1.out.tr T.out (by omega))
  replace S0 := Lib.hid (S0.out.tr T.out (by omega))
  replace S1 := Lib.hid (S1.out.tr T.out (by omega))
  replace Y2 := Lib.hid (Y2.out.tr T.out (by omega))
  replace G := Lib.hid (G.out.tr T.out (by omega))
  replace H0 := Lib.hid (H0.out.tr T.out (by omega))
  replace H1 := Lib.hid (H1.out.tr T.out (by omega))
  replace B := Lib.hid (bel_tr B.out T.out (by omega) (by omega))
  clear b
  clear T
  go_wp2_with fail
  refine (heldWhiteheadS_ob _ ((redF x0 x1).2) _ _ _ _ (OPr.snd G.out) hz1 (by omega) (by omega)).mono ?_
  rintro e w21 ⟨rfl, b⟩
  have T := Lib.hid b
  have hs_w21 := T.out.size
  replace X1 := Lib.hid (X1.out.tr T.out (by omega))
  replace S0 := Lib.hid (S0.out.tr T.out (by omega))
  replace S1 := Lib.hid (S1.out.tr T.out (by omega))
  replace Y2 := Lib.hid (Y2.out.tr T.out (by omega))
  replace G := Lib.hid (G.out.tr T.out (by omega))
  replace H0 := Lib.hid (H0.out.tr T.out (by omega))
  replace H1 := Lib.hid (H1.out.tr T.out (by omega))
  replace B := Lib.hid (bel_tr B.out T.out (by omega) (by omega))
  clear b
  clear T
  go_wp2
  go_ret
  exact ⟨rfl, B.out⟩

set_option maxRecDepth 100000 in
theorem lifted (os : Os) (started : os.Started) (H : Type) (enc : TypeId × Value → H) :
    ReturnsInHanded {} Try.checked os 16 .any (Rows.fnExactReduceCyclicSpec.pre6 enc Try.prog Try.f16 Rows.fnExactReduceCyclicRow.domain false) (Rows.fnExactReduceCyclicSpec.post enc Try.prog Try.f16 false true false false) := by
  refine returnsInHanded_of_change (C := Try.checked) own started (by kernel_rfl) Try.func16
    (ChangeSpec.witness6 (enc := enc) (C := Try.checked) false ⟨#[], #[.int .i64 0, .slice none 0 0], []⟩ 8 (by kernel_rfl) (by kernel_rfl) (by kernel_rfl) (by kernel_rfl)) ?_
  intro W base args ds gs before hval0 hW hcnd _
  have hval : ∀ (j : Nat) t v, Try.f16.params[j]? = some t → args[j]? = some v → Value.okWide Try.prog W .any base t v := hval0
  have hW' := hW
  obtain ⟨p, q, hA0, hV, rfl, hfz, hnd⟩ := hW
  have hA : DataW.TrodAll enc Try.prog W 0 (fun _ => true) true Try.f16.params.toList args.toList ds p := hA0
  rw [Try.params16] at hA hval
  obtain ⟨v0, vs0, d0, ds0, p0, q0, hargs, rfl, rfl, h0, r0⟩ := trodAll_cons hA
  obtain ⟨v1, vs1, d1, ds1, p1, q1, rfl, rfl, rfl, h1, r1⟩ := trodAll_cons r0
  obtain ⟨rfl, rfl, rfl⟩ := trodAll_nil r1
  obtain rfl : args = #[v0, v1] := by cases args; simp_all
  obtain ⟨rfl, rfl⟩ := trodVars_none hV
  have k0 := h0
  have lt0 : ∀ x ∈ p0, x.block < W.heap.size := by obtain ⟨m, hm⟩ := k0; exact DataW.trod_lt m _ _ _ hm
  obtain ⟨x0, rfl, rfl, rfl, w0⟩ := open_int Try.underlying3 (hval 0 3 v0 rfl rfl) h0
  have k1 := h1
  have lt1 : ∀ x ∈ p1, x.block < W.heap.size := by obtain ⟨m, hm⟩ := k1; exact DataW.trod_lt m _ _ _ hm
  obtain ⟨x1, a1⟩ := open_argI (hval 1 43 v1 rfl rfl) h1
  clear hA0 hval0
  refine (walk x0 v1 x1 W (wf_I64 w0) a1).mono fun e W' ⟨he, bel⟩ => ?_
  subst he
  exact ⟨_, rfl, _, _, _, [], _, [], hW', trodAll_mk1 (shut_bool Try.underlying4 _), (trodAll_cons_mk (Below.trod laidOut (by kernel_rfl) (of_decide_eq_true (by kernel_rfl)) k0 bel lt0) (trodAll_cons_mk (Below.trod laidOut (by kernel_rfl) (of_decide_eq_true (by kernel_rfl)) k1 bel lt1) trodAll_mk0)), rfl, bel.frame _, fun h => by cases h⟩

/-- The given statement. -/
theorem proved : Rows.FnExactReduceCyclicSaid :=
  OpenClaim.holds_of_wide 16 Try.f16 rfl rfl rfl rfl rfl rfl rfl ⟨rfl, rfl, rfl, rfl, rfl⟩ rfl rfl rfl rfl rfl (by as_aux_lemma => kernel_rfl) Try.func16 closed
    (of_decide_eq_true (by as_aux_lemma => kernel_rfl)) (by unfold Func.isWrapper; first | (rw [if_pos (by decide +kernel)]; kernel_rfl) | (rw [if_neg (by decide +kernel)]; exact ⟨rfl, rfl⟩))
    (fun os started H enc _ => lifted os started H enc)
#print axioms proved
end Go.Proofs.Ythdgcikdekkjkaa.fnExactReduceCyclic
